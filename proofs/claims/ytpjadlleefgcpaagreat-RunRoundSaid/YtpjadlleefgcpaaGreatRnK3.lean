/-
  What is proved here: part 3 of the road to the claim (MayEq2, Sc1, Sc2, Sc3, ScP, Sc4, Rng, FineM, Sc5, Ar1, Ar2, Ar3, Srt1, Shelf, SortR, SrtP, Tc1, Tc2, Tc3, Bsl, Tc4, Tc5, Tc6, FlP, JmpP, Jm1, Jm2, MirRun, RunTot, RunFu, RunOk, Swap0, Swap2p, ToP, Al1, Al2, Al3, MirParse, Room1, Al4, Full1, Fits1, Fits2, MirEq, RefEq2, LawTo1, AlP, LawAl2, SwP, MirMapS, MapS, RightP, RunLo, RunNm, RunMc).
  No conditions.
-/
import Derived.Test.YtpjadlleefgcpaaGreatRnK2
import Derived.Shelf.Small.Bits
import Derived.Shelf.Strconv.Itoa0
import Derived.Shelf.Sort.Plain
import Derived.Shelf.Slices.Turned
import Derived.Ground.Names2Prog
import Derived.Shelf.Slices.Clone
import Derived.Shelf.Slices.CompactS
import Derived.Shelf.Slices.Cells
import Derived.Shelf.Slices.In.SortNone
import Derived.Ground.SlgnProg
import Derived.Shelf.SlicesE.Clone
import Derived.Test.YtpjadlleefgcpaaGreatProg
import Derived.Sort.Walk0

set_option linter.unusedSimpArgs false
set_option linter.unusedVariables false
namespace Go.Abs
theorem mF : ∀ (a b:List It) (n:Nat),It.gL n (a++b)=(It.gL n a && It.gL (n+a.length) b)
 | [],b,n=>by simp[It.gL]
 |i::a,b,n=>by
  simp only[List.cons_append,It.gL,mF a b (n+1),List.length_cons]
  have:n+1+a.length=n+(a.length+1):=by omega
  rw[this]
  split<;>simp
theorem HX (n:Nat) (i:It):It.gL n [i] = true↔i.s.id=((n+1:Nat):Int)∧i.deep≤12∧i.s.one=true:=by
 simp only[It.gL]
 split
 ·rename_i h
  simp only[Bool.or_eq_true,bne_iff_ne,ne_eq,decide_eq_true_eq,Bool.not_eq_true']at h
  refine⟨fun h=>(Bool.false_ne_true h).elim,fun⟨h1,h2,h3⟩=>?_⟩
  rcases h with (h|h)|h
  ·exact(h h1).elim
  ·omega
  ·rw[h]at h3;cases h3
 ·rename_i h
  simp only[Bool.or_eq_true,bne_iff_ne,ne_eq,decide_eq_true_eq,Bool.not_eq_true',not_or,Decidable.not_not,Bool.not_eq_false]at h
  exact⟨fun _=>⟨h.1.1,by omega,h.2⟩,fun _=>rfl⟩
mutual
theorem D3 (deep cW:Int) (aN:Bool) : ∀ (s:Sm) (out:List It),∃ new,jP deep cW aN out s=out++(⟨s,deep,cW,aN⟩::new)
 | ⟨id,kind,labels,name,proc,x,has,args,aO,e⟩,out=>by
  simp only[jP]
  split
  ·obtain⟨n1,h1⟩:=sU (deep+1) id false aO (out++ [⟨⟨id,kind,labels,name,proc,x,has,args,aO,e⟩,deep,cW,aN⟩])
   obtain⟨n2,h2⟩:=sU (deep+1) id true e (eW (deep+1) id false (out++ [⟨⟨id,kind,labels,name,proc,x,has,args,aO,e⟩,deep,cW,aN⟩]) aO)
   rw[h2,h1]
   exact⟨n1++n2,by simp⟩
  ·exact⟨[],rfl⟩
theorem sU (deep cW:Int) (aN:Bool) : ∀ (l:List Sm) (out:List It),∃ new,eW deep cW aN out l=out++new
 | [],out=>⟨[],by simp[eW]⟩
 | s::l,out=>by
  simp only[eW]
  split
  ·obtain⟨n1,h1⟩:=D3 deep cW aN s out
   obtain⟨n2,h2⟩:=sU deep cW aN l (jP deep cW aN out s)
   rw[h2,h1]
   exact⟨⟨s,deep,cW,aN⟩::n1++n2,by simp⟩
  ·exact⟨[],by simp⟩
end
theorem Kk {nest:Int} {n:Nat} {s:Sm} (h:(Sm.rK nest n s).1=true) :
 n+1≤200∧s.id=((n+1:Nat):Int)∧s.one=true∧(Sm.iJ (nest+1) (n+1) s.aO).1=true∧(Sm.iJ (nest+1) (Sm.iJ (nest+1) (n+1) s.aO).2 s.aN).1=true∧
 (Sm.rK nest n s).2=(Sm.iJ (nest+1) (Sm.iJ (nest+1) (n+1) s.aO).2 s.aN).2:=by
 rw[Jt]at h ⊢
 split at h
 ·cases h
 rename_i h1
 simp only[Bool.or_eq_true,bne_iff_ne,ne_eq,decide_eq_true_eq,Bool.not_eq_true',not_or,Decidable.not_not,Bool.not_eq_false]at h1
 split at h
 ·cases h
 rename_i h2
 have wK:(Sm.iJ (nest+1) (n+1) s.aO).1=true:=by simpa using h2
 refine⟨by omega,h1.1.1.2, ?_,wK,h, ?_⟩
 ·rw[HW,h1.1.2,h1.2];rfl
 ·rw[if_neg (by simp only[Bool.or_eq_true,bne_iff_ne,ne_eq,decide_eq_true_eq,Bool.not_eq_true',not_or,Decidable.not_not,Bool.not_eq_false];exact h1),if_neg h2]
theorem vU {nest:Int} {n:Nat} {l:List Sm} (h:(Sm.iJ nest n l).1=true):(l = []∨nest≤12)∧Sm.iJ nest n l=Sm.fV nest n l:=by
 unfold Sm.iJ gate at *
 split at h
 ·cases h
 ·rename_i hc
  rw[if_neg hc]
  refine⟨?_,rfl⟩
  simp only[Bool.and_eq_true,decide_eq_true_eq,not_and]at hc
  cases l with
  |nil=>exact .inl rfl
  |cons s l=>right;simp only[List.length_cons]at hc;omega
mutual
theorem WG : ∀ (s:Sm) (nest cW:Int) (aN:Bool) (n:Nat) (out:List It),nest≤12→out.length≤n→n≤200→(Sm.rK nest n s).1=true→
 ∃ new,jP nest cW aN out s=out++new∧It.gL n new=true∧n+new.length=(Sm.rK nest n s).2∧(Sm.rK nest n s).2≤200
 | ⟨id,kind,labels,name,proc,x,has,args,aO,e⟩,nest,cW,aN,n,out,WH,ho,hn,h=>by
  obtain⟨h1,h2,h3,h4,h5,h6⟩:=Kk h
  dsimp only at h2 h4 h5 h6
  rw[h6]
  obtain⟨g1,e1⟩:=vU h4
  rw[e1]at h4 h5 ⊢
  obtain⟨g2,e2⟩:=vU h5
  rw[e2]at h5 ⊢
  have sV:It.gL n [(⟨⟨id,kind,labels,name,proc,x,has,args,aO,e⟩,nest,cW,aN⟩:It)] = true:=(HX _ _).2 ⟨h2,WH,h3⟩
  obtain⟨n1,k1,k2,k3,k4⟩:=zh aO (nest+1) id false (n+1) (out++ [⟨⟨id,kind,labels,name,proc,x,has,args,aO,e⟩,nest,cW,aN⟩]) g1 (by simp;omega) h1 h4
  obtain⟨n2,j1,j2,j3,j4⟩:=zh e (nest+1) id true _ (out++ [⟨⟨id,kind,labels,name,proc,x,has,args,aO,e⟩,nest,cW,aN⟩]++n1) g2 (by simp;omega) k4 h5
  simp only[jP]
  rw[if_pos (by simpa using WH),k1,j1]
  refine⟨⟨⟨id,kind,labels,name,proc,x,has,args,aO,e⟩,nest,cW,aN⟩::(n1++n2),by simp, ?_, ?_,j4⟩
  ·have:(⟨⟨id,kind,labels,name,proc,x,has,args,aO,e⟩,nest,cW,aN⟩:It)::(n1++n2) = [⟨⟨id,kind,labels,name,proc,x,has,args,aO,e⟩,nest,cW,aN⟩]++n1++n2:=by simp
   rw[this,mF,mF,sV,Bool.true_and]
   have e3:n+([(⟨⟨id,kind,labels,name,proc,x,has,args,aO,e⟩,nest,cW,aN⟩:It)]++n1).length=(Sm.fV (nest+1) (n+1) aO).2:=by simp;omega
   rw[e3,j2]
   have e4:n + [(⟨⟨id,kind,labels,name,proc,x,has,args,aO,e⟩,nest,cW,aN⟩:It)].length=n+1:=rfl
   rw[e4,k2];rfl
  ·simp only[List.length_cons,List.length_append];omega
theorem zh : ∀ (l:List Sm) (nest cW:Int) (aN:Bool) (n:Nat) (out:List It),(l = []∨nest≤12)→out.length≤n→n≤200→(Sm.fV nest n l).1=true→
 ∃ new,eW nest cW aN out l=out++new∧It.gL n new=true∧n+new.length=(Sm.fV nest n l).2∧(Sm.fV nest n l).2≤200
 | [],nest,cW,aN,n,out,WH,ho,hn,h=>⟨[],by simp[eW],rfl,by simp[Sm.fV],by simpa[Sm.fV]using hn⟩
 |s::l,nest,cW,aN,n,out,WH,ho,hn,h=>by
  have aij:nest≤12:=WH.resolve_left (by simp)
  simp only[Sm.fV]at h ⊢
  split at h
  ·cases h
  rename_i hc
  rw[if_neg hc]
  obtain⟨n1,k1,k2,k3,k4⟩:=WG s nest cW aN n out aij ho hn (by simpa using hc)
  obtain⟨n2,j1,j2,j3,j4⟩:=zh l nest cW aN _ (out++n1) (.inr aij) (by simp;omega) k4 h
  simp only[eW]
  rw[if_pos (by simp only[decide_eq_true_eq];omega),k1,j1]
  refine⟨n1++n2,by simp, ?_,by simp;omega,j4⟩
  rw[mF,k2,k3,j2];rfl
end
mutual
theorem WI : ∀ (s:Sm) (nest cW:Int) (aN:Bool) (n:Nat) (out new:List It),jP nest cW aN out s=out++new→It.gL n new=true→out.length≤n→n+new.length≤200→
 Sm.rK nest n s=(true,n+new.length)∧nest≤12
 | ⟨id,kind,labels,name,proc,x,has,args,aO,e⟩,nest,cW,aN,n,out,new,ib,hm,ho,hn=>by
  obtain⟨n0,h0⟩:=D3 nest cW aN ⟨id,kind,labels,name,proc,x,has,args,aO,e⟩ out
  have e0:new = ⟨⟨id,kind,labels,name,proc,x,has,args,aO,e⟩,nest,cW,aN⟩::n0:=List.append_cancel_left (ib.symm.trans h0)
  subst e0
  have amH:(⟨⟨id,kind,labels,name,proc,x,has,args,aO,e⟩,nest,cW,aN⟩:It)::n0 = [⟨⟨id,kind,labels,name,proc,x,has,args,aO,e⟩,nest,cW,aN⟩]++n0:=rfl
  rw[amH,mF,Bool.and_eq_true]at hm
  obtain⟨qT,nD⟩:=hm
  obtain⟨c1,c2,c3⟩:=(HX _ _).1 qT
  dsimp only at c1 c2 c3
  simp only[List.length_cons]at hn ⊢
  have aad:eW (nest+1) id true (eW (nest+1) id false (out++ [⟨⟨id,kind,labels,name,proc,x,has,args,aO,e⟩,nest,cW,aN⟩]) aO) e=out++([⟨⟨id,kind,labels,name,proc,x,has,args,aO,e⟩,nest,cW,aN⟩]++n0):=by
   simp only[jP]at ib
   rw[if_pos (by simpa using c2)]at ib
   exact ib
  obtain⟨n1,g1⟩:=sU (nest+1) id false aO (out++ [⟨⟨id,kind,labels,name,proc,x,has,args,aO,e⟩,nest,cW,aN⟩])
  obtain⟨n2,g2⟩:=sU (nest+1) id true e (eW (nest+1) id false (out++ [⟨⟨id,kind,labels,name,proc,x,has,args,aO,e⟩,nest,cW,aN⟩]) aO)
  have en:n0=n1++n2:=by
   rw[g2,g1]at aad
   simp only[List.append_assoc,List.append_cancel_left_eq]at aad
   exact aad.symm
  subst en
  have aae:It.gL (n+1) (n1++n2)=true:=nD
  rw[mF,Bool.and_eq_true]at aae
  simp only[List.length_append]at hn ⊢
  obtain⟨r1,r2⟩:=zi aO (nest+1) id false (n+1) _ n1 g1 aae.1 (by simp;omega) (by omega)
  obtain⟨q1,q2⟩:=zi e (nest+1) id true (n+1+n1.length) _ n2 g2 aae.2 (by rw[g1];simp;omega) (by omega)
  refine⟨?_,c2⟩
  have gg : ∀ {l:List Sm} {m:Nat} {r:Bool×Nat},Sm.fV (nest+1) m l=r→(l = []∨nest+1≤12)→Sm.iJ (nest+1) m l=r:=by
   intro l m r h1 h2
   unfold Sm.iJ gate
   rw[if_neg]
   ·exact h1
   ·simp only [Bool.and_eq_true,decide_eq_true_eq,not_and]
    rcases h2 with h2|h2
    ·subst h2;simp
    ·omega
  have t1:=gg r1 r2
  have t2:=gg q1 q2
  rw[Jt]
  dsimp only
  rw[t1]
  dsimp only
  rw[t2]
  rw[HW,Bool.and_eq_true]at c3
  rw[if_neg]
  ·simp;omega
  ·simp only [Bool.or_eq_true,bne_iff_ne,ne_eq,decide_eq_true_eq,Bool.not_eq_true',not_or,Decidable.not_not,Bool.not_eq_false]
   exact⟨⟨⟨by omega,c1⟩,c3.1⟩,c3.2⟩
theorem zi : ∀ (l:List Sm) (nest cW:Int) (aN:Bool) (n:Nat) (out new:List It),eW nest cW aN out l=out++new→It.gL n new=true→out.length≤n→n+new.length≤200→
 Sm.fV nest n l=(true,n+new.length)∧(l = []∨nest≤12)
 | [],nest,cW,aN,n,out,new,ib,hm,ho,hn=>by
  simp only[eW]at ib
  have:new = []:=by simpa using ib
  subst this
  exact⟨by simp[Sm.fV], .inl rfl⟩
 | s::l,nest,cW,aN,n,out,new,ib,hm,ho,hn=>by
  simp only[eW]at ib
  rw[if_pos (by simp only[decide_eq_true_eq];omega)]at ib
  obtain⟨n1,g1⟩:=D3 nest cW aN s out
  obtain⟨n2,g2⟩:=sU nest cW aN l (jP nest cW aN out s)
  have en:new=(⟨s,nest,cW,aN⟩::n1)++n2:=by
   rw[g2,g1,List.append_assoc,List.append_cancel_left_eq]at ib
   exact ib.symm
  subst en
  rw[mF,Bool.and_eq_true]at hm
  rw[List.length_append]at hn ⊢
  obtain⟨r1,r2⟩:=WI s nest cW aN n out _ g1 hm.1 ho (by omega)
  obtain⟨q1,q2⟩:=zi l nest cW aN (n+(⟨s,nest,cW,aN⟩::n1:List It).length) _ n2 g2 hm.2 (by rw[g1,List.length_append];omega) (by omega)
  refine⟨?_, .inr r2⟩
  simp only[Sm.fV,r1,Bool.not_true,Bool.false_eq_true,↓reduceIte,q1]
  congr 1;omega
end
theorem D4 : ∀ (l:List Pc) (out:List It),out.length≤200→(Pc.fV out.length l=true↔Pc.ja l=true∧∃ new,allM out l=out++new∧(out++new).length≤200∧It.gL out.length new=true)
 | [],out,ho=>by simp[Pc.fV,Pc.ja,allM,It.gL];exact ho
 | f::l,out,ho=>by
  have rM : ∀ (l:List Pc) (out:List It),∃ new,allM out l=out++new:=by
   intro l
   induction l with
   |nil=>intro out;exact⟨[],by simp[allM]⟩
   | cons f l ih=>
    intro out
    simp only[allM]
    split
    ·exact⟨_,rfl⟩
    ·obtain⟨n1,h1⟩:=ih (out++f.flat)
     exact⟨f.flat++n1,by rw[h1,List.append_assoc]⟩
  simp only[Pc.fV,Pc.ja]
  have amI:(decide ((f.params.length:Int) > 8) ||decide ((f.vars.length:Int) > 16) || !(isName f.name) || !(fh f.vars) || !(fh f.fin))=(!(isName f.name) ||decide ((f.params.length:Int) > 8) ||decide ((f.vars.length:Int) > 16) || !(fh f.vars) || !(fh f.fin)):=by
   cases isName f.name<;>simp
  rw[amI]
  split
  ·simp
  split
  ·simp
  have hg:Sm.iJ 1 out.length f.body=Sm.fV 1 out.length f.body:=by unfold Sm.iJ gate;rw[if_neg (by simp)]
  rw[hg]
  constructor
  ·intro h
   split at h
   ·cases h
   rename_i hc
   obtain⟨n1,k1,k2,k3,k4⟩:=zh f.body 1 0 false out.length [] (.inr (by omega)) (by simp) ho (by simpa using hc)
   have ib:f.flat=n1:=by unfold Pc.flat;rw[k1];rfl
   rw[← k3, ← List.length_append]at h
   obtain⟨hh,n2,j1,j2,j3⟩:=(D4 l (out++n1) (by rw[List.length_append];omega)).1 h
   refine⟨hh,n1++n2, ?_,by simpa using j2, ?_⟩
   ·simp only [allM,ib]
    rw[if_neg (by simp only[List.length_append,decide_eq_true_eq];omega),j1,List.append_assoc]
   ·rw[mF,k2, ← List.length_append,j3];rfl
  ·rintro⟨hh,new,j1,j2,j3⟩
   simp only[allM]at j1
   split at j1
   ·rename_i hc
    have:new=f.flat:=(List.append_cancel_left j1).symm
    subst this
    simp only[decide_eq_true_eq]at hc
    omega
   rename_i hc
   simp only[decide_eq_true_eq]at hc
   obtain⟨n2,g2⟩:=rM l (out++f.flat)
   have en:new=f.flat++n2:=by
    rw[g2,List.append_assoc]at j1
    exact(List.append_cancel_left j1).symm
   subst en
   rw[mF,Bool.and_eq_true]at j3
   rw[List.length_append,List.length_append]at j2
   obtain⟨r1,_⟩:=zi f.body 1 0 false out.length [] f.flat (by unfold Pc.flat;rfl) j3.1 (by simp) (by omega)
   rw[r1]
   simp only[Bool.not_true,Bool.false_eq_true,↓reduceIte]
   rw[← List.length_append]
   exact(D4 l (out++f.flat) (by rw[List.length_append];omega)).2 ⟨hh,n2,g2,by simp;omega,by rw[List.length_append];exact j3.2⟩
theorem Be (p:Pg):p.Jv=p.may:=by
 have h:=D4 p.procs [] (by simp)
 unfold Pg.Jv Pg.may
 split
 ·rfl
 ·have e:Pc.fV 0 p.procs=(if !(Pc.ja p.procs)then false else if decide ((p.all.length:Int) > 200)then false else It.gL 0 p.all):=by
   rw[Bool.eq_iff_iff]
   have h':Pc.fV 0 p.procs=true↔_:=h
   rw[h']
   have ha:p.all=allM [] p.procs:=rfl
   constructor
   ·rintro⟨h1,new,h2,h3,h4⟩
    rw[ha,h2,h1]
    simp only[List.nil_append]at h3 ⊢
    simp only[Bool.not_true,Bool.false_eq_true,↓reduceIte]
    rw[if_neg (by simp only[decide_eq_true_eq];omega)]
    exact h4
   ·intro h1
    cases hh:Pc.ja p.procs
    ·rw[hh]at h1;simp at h1
    ·rw [hh]at h1
     simp only[Bool.not_true,Bool.false_eq_true,↓reduceIte]at h1
     split at h1
     ·cases h1
     ·rename_i hc
      simp only[decide_eq_true_eq]at hc
      exact⟨rfl,p.all,by rw[ha];rfl,by simp;omega,h1⟩
  exact e
set_option maxRecDepth 8000
open Go.Proofs
def auy (x:aK):List aK→Bool
 | []=>false
 |s::l=>if x==s then true else auy x l
def rX (pre:List aK):List aK→Bool
 | []=>false
 |s::l=>if fH pre s then true else rX (pre++ [s]) l
def ff (l:List aK):Bool:=rX [] l
theorem WJ {l:List aK} {k:Nat} {a:aK} (h:l[k]? = some a):l.take (k+1)=l.take k++ [a]:=by rw[List.take_add_one,h];rfl
theorem Gm {l:List aK} (hl:l.length<4611686018427387904) (g:Tag) (s:St):aH Tryz.prog pZ [.slice g 1 (l.map encStr)] s (.bool (ff l)) s:=by
 refine aH.wk1 (d':= .slice .shared 1 (l.map encStr)) ?_ (Wk.shared _ _ _)
 refine aH.pure ?_ (by simp[D.bF,D.ok,Tag.ok,fK]) rfl s
 generalize h:ff l=p
 simp only[ff]at h
 unfold S0
 refine aH.go HI rfl fun B Q hB hQ=>?_
 have⟨hD,gA,gB,gC⟩:=bP
 repeat' (first
 |simp only[go_sem,hD,gA,gB,gC]
 |(with_reducible first|refine dU fun hc=>?_|refine dV fun hc=>?_|refine dW (fun hc=>?_) fun hc=>?_)<;>(try simp only[hc,bs,↓reduceIte]at h)<;>try simp only[hc]
 |(with_reducible refine aF hQ ?_;exact kC))
 refine fz 0 0 (bo.ind (ι:=List aK×Nat) (fun i=>l.drop i.2=i.1∧rX (l.take i.2) i.1=p) (fun i=>i.1.length)
  (fun i=> [(0, .slice .shared 1 (l.map encStr)),(5, .slice .shared 1 (l.map encStr)),(6, .int .i64 (l.length:Int)),(7, .int .i64 (i.2:Int))]) (fun i=>⟨[],[]⟩) ?_ (l,0) ⟨rfl,h⟩)
 rintro⟨rest,k⟩ ⟨h1,h⟩ IH
 dsimp only at h1 h
 cases rest with
 |nil=>
  have hD:=drop_nil h1
  simp only[rX]at h
  repeat' (first
 |simp only[go_sem,hD,gA,gB,gC]
 |(with_reducible first|refine dU fun hc=>?_|refine dV fun hc=>?_|refine dW (fun hc=>?_) fun hc=>?_)<;>(try simp only[hc,bs,↓reduceIte]at h)<;>try simp only[hc]
 |(with_reducible refine aF hQ ?_;exact kC))
 |cons a rest=>
  obtain⟨gA,g2,hD,g4⟩:=drop_cons h1
  have cd:k<4611686018427387904:=by omega
  simp only[rX]at h
  have hc:=kL (l:=l.take k) (by rw[List.length_take];omega) a
  have e1:List.drop 0 (List.take k (l.map encStr))=(l.take k).map encStr:=by simp[List.map_take]
  have c1:((0:Int)≤(k:Int))=True:=by simp
  have c2:((k:Int)≤(l.length:Int))=True:=by simp only[eq_iff_iff,iff_true];omega
  have e2:List.take k (l.map encStr)=(l.take k).map encStr:=by simp[List.map_take]
  repeat' (first
 |simp only[go_sem,hD,gA,gB,gC,e1,e2,c1,c2,or_true,true_and,and_self,ite_self,Int.toNat_natCast,List.drop_zero]
 |(with_reducible refine CU (hc _ _) ?_)
 |(with_reducible first|refine dU fun hc=>?_|refine dV fun hc=>?_|refine dW (fun hc=>?_) fun hc=>?_)<;>(try simp only[hc,bs,↓reduceIte]at h)<;>try simp only[hc]
 |(with_reducible refine aF hQ ?_;(try cases h);simp only[cZ,da,eK,eO,go_sem,hD,gA,gB,gC,e1,e2,c1,c2,or_true,true_and,and_self,ite_self,Int.toNat_natCast,List.drop_zero];try exact iI))
  refine eQ 0 0 ?_ ?_ (IH (rest,k+1) ⟨g2,by dsimp only;rw[WJ (by assumption)];exact h⟩ (Nat.lt_succ_self _))
  ·(simp only[go_sem,hD,gA,gB,gC,aM cd];try exact bQ)
  ·(simp only[go_sem,hD,gA,gB,gC,aM cd];try exact bQ)
set_option maxRecDepth 8000
open Go.Proofs
def zj (vars globals:List aK) (name:aK):List Pm→Int
 | []=>if fH vars name then 4 else if fH globals name then 1 else 0
 |a::l=>if a.name==name then(if a.ref then 3 else 2)else zj vars globals name l
def Pc.j9 (p:Pg) (f:Pc) (name:aK):Int:=zj f.vars p.globals name f.params
theorem Nv {p:Pg} {f:Pc} (hp:f.params.length<1000000000) (hv:f.vars.length<1000000000) (hg:p.globals.length<1000000000) (name:aK) (s:St):aH Tryz.prog xR [.agg (bK p), .agg (bJ f), .str name] s (.int .i64 (f.j9 p name)) s:=by
 refine aH.pure ?_ (by simp[D.bF,D.ok,iP,zQ]) rfl s
 have uy:=kL (l:=f.vars) (by omega) name
 have wK:=kL (l:=p.globals) (by omega) name
 generalize h:f.j9 p name=q
 simp only[Pc.j9]at h
 unfold S0
 refine aH.go Jk rfl fun B Q hB hQ=>?_
 have⟨hD,gA,gB,gC⟩:=bP
 repeat' (first
 |simp only[go_sem,hD,gA,gB,gC]
 |(with_reducible refine aF hQ ?_;exact aP))
 refine fz 2 0 (bo.ind (ι:=List Pm×Nat) (fun i=>f.params.drop i.2=i.1∧zj f.vars p.globals name i.1=q) (fun i=>i.1.length)
  (fun i=> [(2, .str name),(3, .ptr 0 0),(4, .ptr 1 0),(10, .slice .shared 2 (f.params.map iV)),(11, .int .i64 (f.params.length:Int)),(12, .int .i64 (i.2:Int))]) (fun i=>⟨[bK p,bJ f],[]⟩) ?_ (f.params,0) ⟨rfl,h⟩)
 rintro⟨rest,k⟩ ⟨h1,h⟩ IH
 dsimp only at h1 h
 cases rest with
 | nil=>
  have hD:=drop_nil h1
  simp only[zj]at h
  rcases Bool.eq_false_or_eq_true (fH f.vars name)with b1|b1
  ·simp only [b1,if_true]at h
   subst h
   repeat' (first
 |simp only[go_sem,hD,gA,gB,gC,b1]
 |(with_reducible refine CU (uy _ _) ?_)
 |(with_reducible refine CU (wK _ _) ?_)
 | (with_reducible refine aF hQ ?_;exact aP))
  ·simp only [b1,Bool.false_eq_true,if_false]at h
   rcases Bool.eq_false_or_eq_true (fH p.globals name)with b2|b2
   ·simp only [b2,if_true]at h
    subst h
    repeat' (first
 |simp only[go_sem,hD,gA,gB,gC,b1,b2]
 |(with_reducible refine CU (uy _ _) ?_)
 |(with_reducible refine CU (wK _ _) ?_)
 | (with_reducible refine aF hQ ?_;exact aP))
   ·simp only [b2,Bool.false_eq_true,if_false]at h
    subst h
    repeat' (first
 |simp only[go_sem,hD,gA,gB,gC,b1,b2]
 |(with_reducible refine CU (uy _ _) ?_)
 |(with_reducible refine CU (wK _ _) ?_)
 |(with_reducible refine aF hQ ?_;exact aP))
 | cons a rest=>
  obtain⟨gA,g2,hD,g4⟩:=drop_cons h1
  have cd:k<4611686018427387904:=by omega
  simp only[zj]at h
  rcases Bool.eq_false_or_eq_true (a.name==name)with b1|b1
  ·simp only [b1,if_true]at h
   rcases Bool.eq_false_or_eq_true a.ref with b2|b2
   ·simp only [b2,if_true]at h
    subst h
    repeat' (first
 |simp only[go_sem,hD,gA,gB,gC,b1,b2]
 | (with_reducible refine aF hQ ?_;exact aP))
   ·simp only [b2,Bool.false_eq_true,if_false]at h
    subst h
    repeat' (first
 |simp only[go_sem,hD,gA,gB,gC,b1,b2]
 | (with_reducible refine aF hQ ?_;exact aP))
  ·simp only [b1,Bool.false_eq_true,if_false]at h
   repeat' (first
 |simp only[go_sem,hD,gA,gB,gC,b1]
 | (with_reducible refine aF hQ ?_;exact aP))
   refine eQ 2 0 ?_ ?_ (IH (rest,k+1) ⟨g2,h⟩ (Nat.lt_succ_self _))
   ·(simp only[go_sem,hD,gA,gB,gC,aM cd];try exact bQ)
   ·(simp only[go_sem,hD,gA,gB,gC,aM cd];try exact bQ)
def iE (name:aK):List Pc→Option Pc
 | []=>none
 |f::l=>if f.name==name then some f else iE name l
def Pg.find (p:Pg) (name:aK):Option Pc:=iE name p.procs
def pc0:Pc:=⟨[],[],[],[],[]⟩
def avp (r:Option Pc):D:= .tuple [.agg (bJ (r.getD pc0)), .bool r.isSome]
set_option maxRecDepth 8000
open Go.Proofs
def Pc.tT (f:Pc):List aK:=f.params.map (·.name)
def Pc.own (f:Pc):List aK:=f.tT++f.vars
theorem acS {f:Pc} (hp:f.params.length<1000000) (hv:f.vars.length<1000000) (s:St):aH Tryz.prog vn [.agg (bJ f)] s (.slice .shared 1 (f.own.map encStr)) s:=by
 refine aH.pure ?_ (by simp[D.bF,D.ok,zQ]) (by simp only[D.ok,Tag.ok,fK];rfl) s
 generalize hR:f.own=R
 simp only[Pc.own]at hR
 unfold S0
 refine aH.go Ln rfl fun B Q hB hQ=>?_
 have⟨hD,gA,gB,gC⟩:=bP
 repeat' (first
 |simp only[go_sem,hD,gA,gB,gC]
 |(with_reducible refine aF hQ ?_;exact aP))
 refine bo.qI 3 1 rfl ?_
 simp only[go_sem,hD,gA,gB,gC]
 refine fz 1 1 (bo.ind (ι:=List Pm×Nat×List aK×Nat) (fun i=>f.params.drop i.2.1=i.1∧i.2.2.1++i.1.map (·.name)=f.tT∧i.2.2.2=i.2.2.1.length) (fun i=>i.1.length)
  (fun i=> [(1, .ptr 0 0),(3, .slice (.tok 0) 1 (i.2.2.1.map encStr)),(7, .slice .shared 2 (f.params.map iV)),(8, .int .i64 (f.params.length:Int)),(9, .int .i64 (i.2.1:Int))]) (fun i=>⟨[bJ f],[some i.2.2.2]⟩) ?_ (f.params,0,[],0) ⟨rfl,rfl,rfl⟩)
 rintro⟨rest,k,out,n⟩ ⟨h1,h2,h3⟩ IH
 dsimp only at h1 h2 h3
 subst h3
 have hlo:out.length+rest.length<1000000:=by
  have:=congrArg List.length h2
  simp only[List.length_append,List.length_map,Pc.tT]at this
  omega
 cases rest with
 |nil=>
  have hD:=drop_nil h1
  simp only[List.map_nil,List.append_nil]at h2
  subst hR
  rw[← h2]at hQ
  have fP:=l6 (l:=out) (nx:=f.vars) rfl (by omega) (g:= .shared)
  repeat' (first
 |simp only[go_sem,hD,gA,gB,gC,fP]
 |(with_reducible refine aF hQ ?_;exact aP))
 |cons a rest=>
  obtain⟨gA,g2,hD,g4⟩:=drop_cons h1
  have cd:k<4611686018427387904:=by omega
  have gB:(out.length+1)*17≤bp:=by unfold bp;omega
  repeat' (first
 |simp only[go_sem,hD,gA,gB,gC]
 |(with_reducible refine aF hQ ?_;exact aP))
  refine eQ 1 1 ?_ ?_ (IH (rest,k+1,out++ [a.name],out.length+1) ⟨g2,by rw[← h2];simp,by simp⟩ (Nat.lt_succ_self _))
  ·(simp only[go_sem,hD,gA,gB,gC,aM cd,List.map_append,List.map_cons,List.map_nil,encStr];try exact bQ)
  ·(simp only[go_sem,hD,gA,gB,gC,aM cd,List.map_append,List.map_cons,List.map_nil,encStr];try exact bQ)
def jb:aK:= [109,97,105,110]
def Sm.known (p:Pg) (f:Pc) (procs:List aK) (v:Sm):Bool:=
 !(v.said.any fun n=>f.j9 p n==0) && (v.kind != 4 ||(v.proc != jb && fH procs v.proc))
structure Pc.Small (p:Pg) (f:Pc):Prop where
 par:f.params.length<1000000
 vars:f.vars.length<1000000
 sE:p.globals.length<1000000
def EU (p:Pg) (f:Pc):List aK→Bool
 | []=>true
 |n::l=>if f.j9 p n==0 then false else EU p f l
theorem Kl (p:Pg) (f:Pc) : ∀ l,EU p f l = !(l.any fun n=>f.j9 p n==0)
 | []=>rfl
 |n::l=>by
  simp only[EU,List.any_cons,Kl p f l]
  cases (f.j9 p n==0)<;>simp
theorem Nw (v:Sm) (h:v.oV):v.said.length<3000000:=by
 have : ∀ (l:List Ar) (out:List aK),(Ar.said out l).length≤out.length+2*Ar.aS l:=by
  intro l
  induction l with
  |nil=>intro out;simp[Ar.said]
  |cons a l ih=>
   intro out
   simp only[Ar.said,Ar.aS]
   refine Nat.le_trans (ih _) ?_
   have:=mM a.x
   have:1≤a.x.size:=by obtain⟨_,_,_,_⟩:=a.x;simp[Ex.size]
   simp only[List.length_append]
   split<;>simp<;>omega
 have h1:=this v.args (v.vt++v.x.names)
 have h2:=mM v.x
 have h3:=h.2.2
 have h4:v.vt.length≤1:=by unfold Sm.vt;split<;>simp
 simp only[List.length_append]at h1
 unfold Sm.said
 omega
theorem aeI {p:Pg} {f:Pc} {procs:List aK} {v:Sm} (hs:f.Small p) (zk:procs.length<1000000) (hv:v.oV) (s:St):aH Tryz.prog sh [.agg (bK p), .agg (bJ f), .slice .shared 1 (procs.map encStr), .agg (a8 v)] s (.bool (v.known p f procs)) s:=by
 refine aH.pure ?_ (by simp[D.bF,D.ok,iP,zQ,pJ,Tag.ok,fK]) rfl s
 have hn:=fun s=>D2 hv s
 have hk:=fun n s=>Nv (p:=p) (f:=f) (by have:=hs.par;omega) (by have:=hs.vars;omega) (by have:=hs.sE;omega) n s
 have aik:=kL (l:=procs) (by omega) v.proc
 have hl:=Nw v hv
 generalize h:v.known p f procs=q
 simp only[Sm.known, ← Kl]at h
 unfold S0
 refine aH.go HJ rfl fun B Q hB hQ=>?_
 have⟨hD,gA,gB,gC⟩:=bP
 repeat' (first
 |simp only[go_sem,hD,gA,gB,gC]
 |(with_reducible refine CU (hn _) ?_)
 |(with_reducible refine aF hQ ?_;exact aP))
 refine fz 3 0 (bo.ind (ι:=List aK×Nat) (fun i=>v.said.drop i.2=i.1∧(EU p f i.1 && (v.kind != 4 ||(v.proc != jb && fH procs v.proc)))=q) (fun i=>i.1.length)
  (fun i=> [(2, .slice .shared 1 (procs.map encStr)),(4, .ptr 0 0),(5, .ptr 1 0),(7, .ptr 2 0),(12, .slice .shared 1 (v.said.map encStr)),(13, .int .i64 (v.said.length:Int)),(14, .int .i64 (i.2:Int))]) (fun i=>⟨[bK p,bJ f,a8 v],[]⟩) ?_ (v.said,0) ⟨rfl,h⟩)
 rintro⟨rest,k⟩ ⟨h1,h⟩ IH
 dsimp only at h1 h
 cases rest with
 | nil=>
  have hD:=drop_nil h1
  simp only[EU,Bool.true_and]at h
  rcases Bool.eq_false_or_eq_true (v.kind != 4)with b1|b1
  ·simp only [b1,Bool.true_or]at h
   subst h
   repeat' (first
 |simp only[go_sem,hD,gA,gB,gC,b1]
 | (with_reducible refine aF hQ ?_;exact aP))
  ·simp only [b1,Bool.false_or]at h
   rcases Bool.eq_false_or_eq_true (v.proc != jb)with b2|b2
   ·simp only [b2,Bool.true_and]at h
    unfold jb at b2
    have b3:(v.proc == [109,97,105,110]) = !(v.proc != [109,97,105,110]):=by simp only[bne,Bool.not_not]
    rw[b2]at b3
    simp only[Bool.not_true,Bool.not_false]at b3
    subst h
    repeat' (first
 |simp only[go_sem,hD,gA,gB,gC,b1,b2,b3]
 |(with_reducible refine CU (aik _ _) ?_)
 | (with_reducible refine aF hQ ?_;exact aP))
   ·simp only [b2,Bool.false_and]at h
    unfold jb at b2
    have b3:(v.proc == [109,97,105,110]) = !(v.proc != [109,97,105,110]):=by simp only[bne,Bool.not_not]
    rw[b2]at b3
    simp only[Bool.not_true,Bool.not_false]at b3
    subst h
    repeat' (first
 |simp only[go_sem,hD,gA,gB,gC,b1,b2,b3]
 |(with_reducible refine CU (aik _ _) ?_)
 |(with_reducible refine aF hQ ?_;exact aP))
 | cons a rest=>
  obtain⟨gA,g2,hD,g4⟩:=drop_cons h1
  have cd:k<4611686018427387904:=by omega
  simp only[EU]at h
  rcases Bool.eq_false_or_eq_true (f.j9 p a==0)with b1|b1
  ·simp only [b1,if_true,Bool.false_and]at h
   subst h
   repeat' (first
 |simp only[go_sem,hD,gA,gB,gC,b1]
 |(with_reducible refine CU (hk _ _) ?_)
 | (with_reducible refine aF hQ ?_;exact aP))
  ·simp only [b1,Bool.false_eq_true,if_false]at h
   repeat' (first
 |simp only[go_sem,hD,gA,gB,gC,b1]
 |(with_reducible refine CU (hk _ _) ?_)
 | (with_reducible refine aF hQ ?_;exact aP))
   refine eQ 3 0 ?_ ?_ (IH (rest,k+1) ⟨g2,h⟩ (Nat.lt_succ_self _))
   ·(simp only[go_sem,hD,gA,gB,gC,aM cd];try exact bQ)
   ·(simp only[go_sem,hD,gA,gB,gC,aM cd];try exact bQ)
theorem Qp : ∀ (l pre:List aK),rX pre l=true↔(∃ x∈l,x∈pre)∨¬ l.Nodup
 | [],pre=>by simp[rX]
 | s::l,pre=>by
  simp only[rX]
  by_cases h:fH pre s=true
  ·simp only [h,if_true,true_iff]
   exact .inl ⟨s,List.mem_cons_self,(fx _ _).1 h⟩
  ·have h':s∉pre:=fun m=>h ((fx _ _).2 m)
   simp only[h,if_false,Bool.false_eq_true]
   rw[Qp l (pre++ [s])]
   simp only[List.mem_append,List.mem_singleton,List.mem_cons,List.nodup_cons,exists_eq_or_imp]
   constructor
   ·rintro(⟨x,m,h1 | h1⟩ | h1)
    ·exact .inl (.inr ⟨x,m,h1⟩)
    ·have h1:x=s:=by simpa using h1
     subst h1;exact .inr fun h=>h.1 m
    ·exact .inr fun h=>h1 h.2
   ·rintro((h1 | ⟨x,m,h1⟩) | h1)
    ·exact absurd h1 h'
    ·exact .inl ⟨x,m, .inl h1⟩
    ·by_cases m:s∈l
     ·exact .inl ⟨s,m, .inr (.inl rfl)⟩
     ·exact .inr fun h=>h1 ⟨m,h⟩
theorem pA (l:List aK):ff l=true↔¬ l.Nodup:=by
 unfold ff;rw[Qp];simp
theorem WK (a b:List aK):ff (a++b)=(ff a ||(ff b ||b.any (fH a))):=by
 have h:ff (a++b)=true↔(ff a ||(ff b ||b.any (fH a)))=true:=by
  rw[pA,List.nodup_append]
  simp only[Bool.or_eq_true,pA,List.any_eq_true,fx]
  constructor
  ·intro h
   by_cases ha:a.Nodup
   ·by_cases hb:b.Nodup
    ·refine .inr (.inr (Classical.byContradiction fun hn=>h ⟨ha,hb,fun x hx y hy e=>hn ⟨y,hy,e ▸ hx⟩⟩))
    ·exact .inr (.inl hb)
   ·exact .inl ha
  ·rintro(h | h | ⟨x,h1,h2⟩) ⟨h3,h4,h5⟩
   ·exact h h3
   ·exact h h4
   ·exact h5 x h2 x h1 rfl
 cases h1:ff (a++b)<;>cases h2:(ff a ||(ff b ||b.any (fH a)))<;>simp_all
theorem Nx (name:aK) : ∀ (l:List Pc) (k:Nat),(iE name l=none∧j7 name (k:Int) (l.map (·.name)) = -1)∨∃ f j,iE name l=some f∧l[j]? = some f∧j7 name (k:Int) (l.map (·.name))=((k+j:Nat):Int)
 | [],k=> .inl ⟨rfl,rfl⟩
 | f::l,k=>by
  by_cases h:f.name=name
  ·subst h
   refine .inr ⟨f,0,by simp[iE],rfl,by simp[j7]⟩
  ·have h1:(f.name==name)=false:=by simp [h]
   have h2:(name==f.name)=false:=by simp[Ne.symm h]
   simp only[iE,h1,Bool.false_eq_true,if_false,List.map_cons,j7,h2]
   rcases Nx name l (k+1)with ⟨g1,g2⟩|⟨g,j,g1,g2,g3⟩
   ·exact .inl ⟨g1,by rw[← g2];rfl⟩
   ·refine .inr ⟨g,j+1,g1,by simpa using g2, ?_⟩
    rw[show((k:Int)+1)=((k+1:Nat):Int)from rfl,g3]
    congr 1;omega
theorem sF {name:aK} {f:Pc} : ∀ {l:List Pc},iE name l=some f→f∈l∧f.name=name
 |g::l,h=>by
  simp only[iE]at h
  split at h
  ·rename_i e;cases h;exact⟨List.mem_cons_self,by simpa using e⟩
  ·have:=sF h;exact⟨List.mem_cons_of_mem _ this.1,this.2⟩
mutual
theorem WL (deep cW:Int) (aN:Bool) (out:List It) : ∀ s:Sm,∃ e,jP deep cW aN out s=out++e
 | ⟨id,kind,labels,name,proc,x,has,args,aO,e⟩=>by
  simp only[jP]
  split
  ·obtain⟨e1,h1⟩:=vV (deep+1) id false (out++ [⟨⟨id,kind,labels,name,proc,x,has,args,aO,e⟩,deep,cW,aN⟩]) aO
   obtain⟨e2,h2⟩:=vV (deep+1) id true (eW (deep+1) id false (out++ [⟨⟨id,kind,labels,name,proc,x,has,args,aO,e⟩,deep,cW,aN⟩]) aO) e
   rw[h2,h1]
   exact⟨_,by rw[List.append_assoc,List.append_assoc]⟩
  ·exact⟨_,rfl⟩
theorem vV (deep cW:Int) (aN:Bool) (out:List It) : ∀ l:List Sm,∃ e,eW deep cW aN out l=out++e
 | []=>⟨[],by simp[eW]⟩
 | s::l=>by
  simp only[eW]
  split
  ·obtain⟨e1,h1⟩:=WL deep cW aN out s
   obtain⟨e2,h2⟩:=vV deep cW aN (jP deep cW aN out s) l
   rw[h2,h1]
   exact⟨_,by rw[List.append_assoc]⟩
  ·exact⟨[],by simp⟩
end
mutual
theorem WM (deep cW:Int) (aN:Bool) (out:List It) : ∀ s:Sm,(jP deep cW aN out s).length≤200→(∀ i∈jP deep cW aN out s,i.deep≤12)→(jP deep cW aN out s).map It.s=out.map It.s++s.pre
 | ⟨id,kind,labels,name,proc,x,has,args,aO,e⟩,h1,h2=>by
  simp only[jP,Sm.pre]at h1 h2 ⊢
  by_cases hd:deep≤12
  ·simp only [hd,decide_true,if_true]at h1 h2 ⊢
   obtain⟨e2,g2⟩:=vV (deep+1) id true (eW (deep+1) id false (out++ [⟨⟨id,kind,labels,name,proc,x,has,args,aO,e⟩,deep,cW,aN⟩]) aO) e
   have k1:(eW (deep+1) id false (out++ [⟨⟨id,kind,labels,name,proc,x,has,args,aO,e⟩,deep,cW,aN⟩]) aO).length≤200:=by
    rw[g2,List.length_append]at h1;omega
   have k2 : ∀ i∈eW (deep+1) id false (out++ [⟨⟨id,kind,labels,name,proc,x,has,args,aO,e⟩,deep,cW,aN⟩]) aO,i.deep≤12:=fun i m=>h2 i (by rw[g2];exact List.mem_append_left _ m)
   rw[zl (deep+1) id true _ e h1 h2,zl (deep+1) id false _ aO k1 k2]
   simp
  ·simp only [hd,decide_false,Bool.false_eq_true,if_false]at h1 h2
   exact absurd (h2 _ (List.mem_append_right _ (List.mem_singleton.2 rfl))) (by simpa using hd)
theorem zl (deep cW:Int) (aN:Bool) (out:List It) : ∀ l:List Sm,(eW deep cW aN out l).length≤200→(∀ i∈eW deep cW aN out l,i.deep≤12)→(eW deep cW aN out l).map It.s=out.map It.s++Sm.bH l
 | [],h1,h2=>by simp[eW,Sm.bH]
 | s::l,h1,h2=>by
  simp only[eW,Sm.bH]at h1 h2 ⊢
  by_cases hc:(out.length:Int)≤200
  ·simp only [hc,decide_true,if_true]at h1 h2 ⊢
   obtain⟨e2,g2⟩:=vV deep cW aN (jP deep cW aN out s) l
   have k1:(jP deep cW aN out s).length≤200:=by rw[g2,List.length_append]at h1;omega
   have k2 : ∀ i∈jP deep cW aN out s,i.deep≤12:=fun i m=>h2 i (by rw[g2];exact List.mem_append_left _ m)
   rw[zl deep cW aN _ l h1 h2,WM deep cW aN out s k1 k2]
   simp
  ·simp only [hc,decide_false,Bool.false_eq_true,if_false]at h1
   omega
end
theorem Ny : ∀ (l:List Pc) (out:List It),(allM out l).length≤200→(∀ i∈allM out l,i.deep≤12)→(∀ f∈l,f.flat.map It.s=Sm.bH f.body)∧(allM out l).map It.s=out.map It.s++(l.map fun f=>Sm.bH f.body).flatten
 | [],out,h1,h2=>⟨fun f m=>(by cases m),by simp[allM]⟩
 | f::l,out,h1,h2=>by
  simp only[allM]at h1 h2 ⊢
  by_cases hc:(((out++f.flat).length:Nat):Int) > 200
  ·simp only[hc,decide_true,if_true]at h1;omega
  ·simp only [hc,decide_false,Bool.false_eq_true,if_false]at h1 h2 ⊢
   obtain⟨k1,k2⟩:=Ny l (out++f.flat) h1 h2
   have rM : ∀ (l:List Pc) (out:List It),∃ e,allM out l=out++e:=by
    intro l
    induction l with
    |nil=>intro out;exact⟨[],by simp[allM]⟩
    |cons g l ih=>
     intro out
     simp only[allM]
     split
     ·exact⟨_,rfl⟩
     ·obtain⟨e,h⟩:=ih (out++g.flat);exact⟨g.flat++e,by rw[h];simp⟩
   obtain⟨e,he⟩:=rM l (out++f.flat)
   have k3:f.flat.map It.s=Sm.bH f.body:=by
    have:=zl 1 0 false [] f.body (by
     have:f.flat.length≤200:=by simp only[List.length_append]at hc;omega
     exact this) (fun i m=>h2 i (by rw[he];exact List.mem_append_left _ (List.mem_append_right _ m)))
    simpa[Pc.flat]using this
   refine⟨fun g m=>?_, ?_⟩
   ·rcases List.mem_cons.1 m with rfl | m
    ·exact k3
    ·exact k1 g m
   ·rw[k2];simp[k3]
theorem D5 : ∀ (l:List It) (n:Nat),It.gL n l=true→(∀ i∈l,i.deep≤12)∧∀ (j:Nat) (i:It),l[j]? = some i→i.s.id=((n+j+1:Nat):Int)
 | [],n,h=>⟨fun i m=>(by cases m),fun j i h=>by simp at h⟩
 | a::l,n,h=>by
  simp only[It.gL]at h
  split at h
  ·cases h
  ·rename_i c
   simp only[Bool.or_eq_true,not_or,bne_iff_ne,ne_eq,Decidable.not_not,decide_eq_true_eq,Int.not_lt,gt_iff_lt]at c
   obtain⟨k1,k2⟩:=D5 l (n+1) h
   refine⟨fun i m=>?_,fun j i hj=>?_⟩
   ·rcases List.mem_cons.1 m with rfl | m
    ·exact c.1.2
    ·exact k1 i m
   ·cases j with
    |zero=>simp at hj;subst hj;rw[c.1.1]
    |succ j=>simp at hj;rw[k2 j i hj];congr 1;omega
theorem Bf {p:Pg} (h:p.may=true):p.all.length≤200∧It.gL 0 p.all=true:=by
 unfold Pg.may at h
 split at h
 ·cases h
 ·split at h
  ·cases h
  ·split at h
   ·cases h
   ·rename_i c
    exact⟨by simp only[decide_eq_true_eq,Int.not_lt,gt_iff_lt]at c;omega,h⟩
theorem x7 {p:Pg} (h:p.may=true):(∀ f∈p.procs,f.flat.map It.s=Sm.bH f.body)∧p.all.map It.s=p.pre:=by
 obtain⟨h1,h2⟩:=Bf h
 have:=Ny p.procs [] h1 (D5 _ 0 h2).1
 simpa[Pg.pre,Pg.all]using this
theorem rY {p:Pg} (h:p.may=true) {i:Nat} {v:Sm} (hv:p.pre[i]? = some v):v.id=((i+1:Nat):Int):=by
 rw[← (x7 h).2,List.getElem?_map,Option.map_eq_some_iff]at hv
 obtain⟨it,h1,rfl⟩:=hv
 have:=(D5 _ 0 (Bf h).2).2 i it h1
 rw[this];congr 1;omega
set_option maxRecDepth 8000
open Go.Proofs
structure Pg.jE (p:Pg):Prop where
 TK:p.ET
 sz:p.size≤900000
mutual
theorem ail : ∀ s:Sm,s.mD→s.size<1000000→∀ v∈s.pre,v.oV∧v.wB
 |⟨id,kind,labels,name,proc,x,has,args,aO,aN⟩,h,hs,v,m=>by
  simp only[Sm.mD]at h
  simp only[Sm.size]at hs
  simp only[Sm.pre,List.mem_cons,List.mem_append]at m
  rcases m with rfl|m|m
  ·exact⟨⟨h.1.xt,fun a ha=>(h.1.arg a ha).2.1,by dsimp only;omega⟩,h.1⟩
  ·exact EV aO h.2.1 (by omega) v m
  ·exact EV aN h.2.2 (by omega) v m
theorem EV : ∀ l:List Sm,Sm.gj l→Sm.aS l<1000000→∀ v∈Sm.bH l,v.oV∧v.wB
 | [],h,hs,v,m=>by simp[Sm.bH]at m
 |s::l,h,hs,v,m=>by
  simp only[Sm.gj]at h
  simp only[Sm.aS]at hs
  simp only[Sm.bH,List.mem_append]at m
  rcases m with m|m
  ·exact ail s h.1 (by omega) v m
  ·exact EV l h.2 (by omega) v m
end
theorem Pg.jE.said {p:Pg} (h:p.jE) {f:Pc} (hf:f∈p.procs) : ∀ v∈Sm.bH f.body,v.oV:=fun v m=>by
 have h1:=Pc.cu hf
 have h2:=h.sz
 simp only[Pg.size]at h2
 simp only[Pc.size]at h1
 exact(EV f.body (h.TK.body f hf) (by omega) v m).1
theorem Pg.jE.small {p:Pg} (h:p.jE) {f:Pc} (hf:f∈p.procs):f.Small p:=by
 have h1:=Pc.cu hf
 have h2:=h.sz
 simp only[Pg.size]at h2
 simp only[Pc.size]at h1
 exact⟨by omega,by omega,by omega⟩
theorem Pg.jE.procs {p:Pg} (h:p.jE):p.procs.length≤900000∧Pc.aS p.procs≤900000∧p.globals.length≤900000:=by
 have h2:=h.sz
 have h3:=Pc.dr p.procs
 simp only[Pg.size]at h2
 omega
def Pg.pn (p:Pg):List aK:=p.procs.map (·.name)
def Ae (p:Pg) (f:Pc) (procs:List aK):List Sm→Option Sm
 | []=>none
 |v::l=>if v.known p f procs then Ae p f procs l else some v
def tU (p:Pg) (procs:List aK):List Pc→Int×Int
 | []=>(0,0)
 |f::l=>if ff (p.globals++f.own)then(5,0)else match Ae p f procs (Sm.bH f.body)with|some v=>(5,v.id)|none=>tU p procs l
def Pg.oW (p:Pg):Bool:=match p.find jb with|none=>true|some m=>decide ((m.params.length:Int) > 0)
def Pg.scope (p:Pg):Int×Int:=
 if p.may then if ff p.globals ||(ff p.pn ||p.oW)then(5,0)else tU p p.pn p.procs else(1,0)
theorem aaf (p:Pg) (hl:p.globals.length<1000000) (n:aK):aH Tryz.prog qs ([.str n]++ [.ptr 0 0]) ⟨[bK p],[]⟩ (.bool (fH p.globals n)) ⟨[bK p],[]⟩:=by
 show aH Tryz.prog qs [.str n, .ptr 0 0] _ _ _
 have rp:=kL (l:=p.globals) (by omega) n
 refine aH.go Fk rfl fun B Q hB hQ=>?_
 have⟨hD,gA,gB,gC⟩:=bP
 repeat' (first
 |simp only[go_sem,hD,gA,gB,gC]
 |(with_reducible refine CU (rp _ _) ?_)
 |(with_reducible refine aF hQ ?_;exact aP))
theorem acT (n m:Nat) (p:Pg):D.iF n m (gp p)=gp p:=jk n m _ (wC p)
attribute [go_sem] acT
theorem aeJ {p:Pg} {f:Pc} {procs:List aK} {v:Sm} (hs:f.Small p) (zk:procs.length<1000000) (hv:v.oV) (g:Tag) (s:St):aH Tryz.prog sh [.agg (bK p), .agg (bJ f), .slice g 1 (procs.map encStr), .agg (a8 v)] s (.bool (v.known p f procs)) s:=
 bS.sy (.cons (Wk.refl _) (.cons (Wk.refl _) (.cons (Wk.shared g 1 _) (kv.refl _)))) (aeI hs zk hv s)
theorem x8 {p:Pg} (h:p.jE) (s:St):aH Tryz.prog nK [.agg (bK p)] s (.agg [.int .i64 p.scope.1, .int .i64 p.scope.2]) s:=by
 refine aH.pure ?_ (by simp[D.bF,D.ok,iP]) rfl s
 have hm:=fun s=>HR h.TK s
 simp only[Be]at hm
 obtain⟨td,p8,sT⟩:=h.procs
 have dw:=fun s=>EP (p:=p) (by omega) s
 have ry:=fun s=>Gm (l:=p.globals) (by omega) .shared s
 have Qq:p.pn.length=p.procs.length:=by simp[Pg.pn]
 have Hg:=fun g s=>Gm (l:=p.pn) (by omega) g s
 have Nz:=fun g s=>(ER (l:=p.pn) (by omega) jb s).wk1 (Wk.shared g 1 (p.pn.map encStr))
 have Gn:=fun g s=>(show aH Tryz.prog ig [.slice g 1 (p.pn.map encStr), .str [109,97,105,110]] s (.int .i64 (j7 jb 0 p.pn)) s from Nz g s)
 generalize hR:p.scope=R
 simp only[Pg.scope]at hR
 unfold S0
 rcases Bool.eq_false_or_eq_true p.may with hb|hb
 case inr=>
  simp only[hb]at hm
  simp only[hb,Bool.false_eq_true,if_false]at hR
  subst hR
  refine aH.go yW rfl fun B Q hB hQ=>?_
  have⟨hD,gA,gB,gC⟩:=bP
  repeat' (first
 |simp only[go_sem,hD,gA,gB,gC]
 |(with_reducible refine CU (hm _) ?_)
 |(with_reducible refine aF hQ ?_;exact aP))
 simp only[hb]at hm
 simp only[hb,if_true]at hR
 refine aH.go yW rfl fun B Q hB hQ=>?_
 have⟨hD,gA,gB,gC⟩:=bP
 repeat' (first
 |simp only[go_sem,hD,gA,gB,gC]
 |(with_reducible refine CU (hm _) ?_)
 |(with_reducible refine aF hQ ?_;exact aP))
 refine bo.qI 3 1 rfl ?_
 simp only[go_sem,hD,gA,gB,gC]
 refine fz 2 1 (bo.ind (ι:=List Pc×Nat×List aK×Nat) (fun i=>p.procs.drop i.2.1=i.1∧i.2.2.1++i.1.map (·.name)=p.pn∧i.2.2.2=i.2.2.1.length) (fun i=>i.1.length)
  (fun i=> [(1, .ptr 0 0),(2, .ptr 1 0),(3, .slice (.tok 0) 1 (i.2.2.1.map encStr)),(18, .slice .shared 5 (p.procs.map bJ)),(19, .int .i64 (p.procs.length:Int)),(20, .int .i64 (i.2.1:Int))]) (fun i=>⟨[bK p,[.int .i64 0, .int .i64 0]],[some i.2.2.2]⟩) ?_ (p.procs,0,[],0) ⟨rfl,rfl,rfl⟩)
 rintro⟨rest,k,out,n⟩ ⟨h1,h2,h3⟩ IH
 dsimp only at h1 h2 h3
 subst h3
 have hlo:out.length+rest.length≤900000:=by
  have:=congrArg List.length h2
  simp only[List.length_append,List.length_map]at this
  omega
 cases rest with
 |cons a rest=>
  obtain⟨gA,g2,hD,g4⟩:=drop_cons h1
  have cd:k<4611686018427387904:=by omega
  have gB:(out.length+1)*17≤bp:=by unfold bp;omega
  repeat' (first
 |simp only[go_sem,hD,gA,gB,gC]
 |(with_reducible refine aF hQ ?_;exact aP))
  refine eQ 2 1 ?_ ?_ (IH (rest,k+1,out++ [a.name],out.length+1) ⟨g2,by rw[← h2];simp,by simp⟩ (Nat.lt_succ_self _))
  ·(simp only[go_sem,hD,gA,gB,gC,aM cd,List.map_append,List.map_cons,List.map_nil,encStr];try exact bQ)
  ·(simp only[go_sem,hD,gA,gB,gC,aM cd,List.map_append,List.map_cons,List.map_nil,encStr];try exact bQ)
 | nil=>
  have hD:=drop_nil h1
  simp only[List.map_nil,List.append_nil]at h2
  subst h2
  rcases Bool.eq_false_or_eq_true (ff p.globals)with b1|b1
  ·simp only [b1,Bool.true_or,if_true]at hR
   subst hR
   repeat' (first
 |simp only[go_sem,hD,gA,gB,gC,b1]
 |(with_reducible refine CU (Gn _ _) ?_)
 |(with_reducible refine CU (ry _) ?_)
 |(with_reducible refine CU (Hg _ _) ?_)
 | (with_reducible refine aF hQ ?_;exact aP))
  rcases Bool.eq_false_or_eq_true (ff p.pn)with b2|b2
  ·simp only [b1,b2,Bool.true_or,Bool.or_true,if_true]at hR
   subst hR
   repeat' (first
 |simp only[go_sem,hD,gA,gB,gC,b1,b2]
 |(with_reducible refine CU (Gn _ _) ?_)
 |(with_reducible refine CU (ry _) ?_)
 |(with_reducible refine CU (Hg _ _) ?_)
 | (with_reducible refine aF hQ ?_;exact aP))
  rcases Nx jb p.procs 0 with ⟨e1,e2⟩|⟨m,j,e1,e2,e3⟩
  ·have b3:p.oW=true:=by unfold Pg.oW Pg.find;rw [e1]
   have hi:j7 jb 0 p.pn = -1:=e2
   simp only[b1,b2,b3,Bool.or_true,if_true]at hR
   subst hR
   simp only[hi]at Gn
   have d1:decide ((-1:Int)<0)=true:=by decide
   repeat' (first
 |simp only[go_sem,hD,gA,gB,gC,b1,b2,d1]
 |(with_reducible refine CU (Gn _ _) ?_)
 |(with_reducible refine CU (ry _) ?_)
 |(with_reducible refine CU (Hg _ _) ?_)
 | (with_reducible refine aF hQ ?_;exact aP))
  have hi:j7 jb 0 p.pn=((j:Nat):Int):=by rw[show p.pn=p.procs.map (·.name)from rfl];simpa using e3
  simp only[hi]at Gn
  have d1:decide (((j:Nat):Int)<0)=false:=by simp
  have hj:j<p.procs.length:=(List.getElem?_eq_some_iff.1 e2).1
  have b3:p.oW=decide ((m.params.length:Int) > 0):=by unfold Pg.oW Pg.find;rw[e1]
  rw[b3]at hR
  rcases Bool.eq_false_or_eq_true (decide ((m.params.length:Int) > 0))with b4|b4
  ·simp only [b1,b2,b4,Bool.or_true,if_true]at hR
   subst hR
   repeat' (first
 |simp only[go_sem,hD,gA,gB,gC,b1,b2,d1,e2,b4]
 |(with_reducible refine CU (Gn _ _) ?_)
 |(with_reducible refine CU (ry _) ?_)
 |(with_reducible refine CU (Hg _ _) ?_)
 |(with_reducible refine aF hQ ?_;exact aP))
  simp only[b1,b2,b4,Bool.or_false,Bool.false_eq_true,if_false]at hR
  repeat' (first
 |simp only[go_sem,hD,gA,gB,gC,b1,b2,d1,e2,b4]
 |(with_reducible refine CU (Gn _ _) ?_)
 |(with_reducible refine CU (ry _) ?_)
 |(with_reducible refine CU (Hg _ _) ?_)
 |(with_reducible refine CU (dw _) ?_)
 | (with_reducible refine aF hQ ?_;exact aP))
  refine fz 2 1 (bo.ind (ι:=List Pc×Nat) (fun i=>p.procs.drop i.2=i.1∧tU p p.pn i.1=R) (fun i=>i.1.length)
   (fun i=> [(1, .ptr 0 0),(2, .ptr 1 0),(3, .slice (.tok 0) 1 (p.pn.map encStr)),(7, .dN (gp p) 0),(57, .slice .shared 5 (p.procs.map bJ)),(58, .int .i64 (p.procs.length:Int)),(59, .int .i64 (i.2:Int))]) (fun i=>⟨[bK p,[.int .i64 0, .int .i64 0]],[some p.pn.length]⟩) ?_ (p.procs,0) ⟨rfl,hR⟩)
  clear IH h1 hD hR
  rintro⟨rest,k⟩ ⟨h1,hR⟩ IH
  dsimp only at h1 hR
  cases rest with
  |nil=>
   have hD:=drop_nil h1
   simp only[tU]at hR
   subst hR
   repeat' (first
 |simp only[go_sem,hD,gA,gB,gC]
 | (with_reducible refine aF hQ ?_;exact aP))
  | cons f rest=>
   obtain⟨gA,g2,hD,g4⟩:=drop_cons h1
   have cd:k<4611686018427387904:=by omega
   have CT:=List.mem_of_getElem? gA
   have x9:=h.small CT
   have WN:=fun s=>acS (f:=f) x9.par x9.vars s
   have jB:f.own.length<4611686018427387904:=by have h1:=x9.par;have h2:=x9.vars;unfold Pc.own Pc.tT;simp;omega
   have Qd:=fun s=>Gm (l:=f.own) jB .shared s
   have FE:=fun {s:St} {o:Nat} (ho:s.aj[o]? = some (bK p))=>Bc (l:=f.own) jB (f:=qs) (row:=bK p) (b:=fH p.globals) (iP p) (by with_unfolding_all rfl) (fun x _=>aaf p x9.sE x) ho
   have aag:=fun {s:St} {o:Nat} (ho:s.aj[o]? = some (bK p))=>(show aH Tryz.prog ij [.slice .shared 1 (f.own.map encStr), .ix 130 [.ptr o 0]] s (.bool (f.own.any (fH p.globals))) s from FE ho)
   simp only[tU,WK,b1,Bool.false_or]at hR
   rcases Bool.eq_false_or_eq_true (ff f.own)with c1|c1
   ·simp only [c1,Bool.true_or,if_true]at hR
    subst hR
    repeat' (first
 |simp only[go_sem,hD,gA,gB,gC,c1]
 |(with_reducible refine CU (WN _) ?_)
 |(with_reducible refine CU (Qd _) ?_)
 |(with_reducible refine CU (aag (by with_unfolding_all rfl)) ?_)
 | (with_reducible refine aF hQ ?_;exact aP))
   rcases Bool.eq_false_or_eq_true (f.own.any (fH p.globals))with c2|c2
   ·simp only [c1,c2,Bool.false_or,if_true]at hR
    subst hR
    repeat' (first
 |simp only[go_sem,hD,gA,gB,gC,c1,c2]
 |(with_reducible refine CU (WN _) ?_)
 |(with_reducible refine CU (Qd _) ?_)
 |(with_reducible refine CU (aag (by with_unfolding_all rfl)) ?_)
 | (with_reducible refine aF hQ ?_;exact aP))
   simp only[c1,c2,Bool.or_self,Bool.false_eq_true,if_false]at hR
   obtain⟨it,sV,zm⟩:=ZW gA (by omega)
   rw[← sV]at hR
   have aim:it.length≤900000:=by
    have e:=congrArg List.length sV
    have e2:=(kW p).2 k f gA
    obtain⟨a,b,e',_,_,e3,e4⟩:=e2
    have e5:=qR p
    have e6:=congrArg List.length e3
    rw[e4]at e5
    simp only[List.length_map,List.length_append]at e e5 e6
    omega
   repeat' (first
 |simp only[go_sem,hD,gA,gB,gC,c1,c2]
 |(with_reducible refine CU (WN _) ?_)
 |(with_reducible refine CU (Qd _) ?_)
 |(with_reducible refine CU (aag (by with_unfolding_all rfl)) ?_)
 |(with_reducible refine CU (zm _) ?_)
 | (with_reducible refine aF hQ ?_;exact aP))
   obtain⟨q,hq⟩ : ∃ q,Ae p f p.pn (it.map Im.s)=q:=⟨_,rfl⟩
   rw[hq]at hR
   refine fz 3 1 (bo.ind (ι:=List Im×Nat) (fun i=>it.drop i.2=i.1∧Ae p f p.pn (i.1.map Im.s)=q) (fun i=>i.1.length)
    (fun i=> [(1, .ptr 0 0),(2, .ptr 1 0),(3, .slice (.tok 0) 1 (p.pn.map encStr)),(7, .dN (gp p) 0),(9, .ptr 2 0),(57, .slice .shared 5 (p.procs.map bJ)),(58, .int .i64 (p.procs.length:Int)),(59, .int .i64 (k:Int)),(76, .slice .shared 17 (it.map dM)),(77, .int .i64 (it.length:Int)),(78, .int .i64 (i.2:Int))]) (fun i=>⟨[bK p,[.int .i64 0, .int .i64 0],bJ f],[some p.pn.length]⟩) ?_ (it,0) ⟨rfl,hq⟩)
   rintro⟨EF,n⟩ ⟨j1,j2⟩ IH'
   dsimp only at j1 j2
   have yO:=hD
   cases EF with
   |nil=>
    have auz:=drop_nil j1
    simp only[List.map_nil,Ae]at j2
    subst j2
    simp only at hR
    repeat' (first
 |simp only[go_sem,hD,gA,gB,gC,auz]
 | (with_reducible refine aF hQ ?_;exact aP))
    refine eQ 2 1 ?_ ?_ (IH (rest,k+1) ⟨g2,hR⟩ (Nat.lt_succ_self _))
    ·(simp only[go_sem,hD,gA,gB,gC,aM cd];try exact bQ)
    ·(simp only[go_sem,hD,gA,gB,gC,aM cd];try exact bQ)
   | cons i EF=>
    obtain⟨oh,Qr,vW,jg4⟩:=drop_cons j1
    have wR:n<4611686018427387904:=by omega
    have CX:i.s∈Sm.bH f.body:=by rw[← sV];exact List.mem_map_of_mem (List.mem_of_getElem? oh)
    have WO:=aeJ (v:=i.s) x9 (procs:=p.pn) (by omega) (h.said CT _ CX)
    simp only[List.map_cons,Ae]at j2
    rcases Bool.eq_false_or_eq_true (i.s.known p f p.pn)with c3|c3
    ·simp only [c3,if_true]at j2
     repeat' (first
 |simp only[go_sem,hD,gA,gB,gC,vW,oh,c3]
 |(with_reducible refine CU (WO _ _) ?_)
 | (with_reducible refine aF hQ ?_;exact aP))
     refine eQ 3 1 ?_ ?_ (IH' (EF,n+1) ⟨Qr,j2⟩ (Nat.lt_succ_self _))
     ·(simp only[go_sem,hD,gA,gB,gC,aM wR];try exact bQ)
     ·(simp only[go_sem,hD,gA,gB,gC,aM wR];try exact bQ)
    ·simp only [c3,Bool.false_eq_true,if_false]at j2
     subst j2
     simp only at hR
     subst hR
     repeat' (first
 |simp only[go_sem,hD,gA,gB,gC,vW,oh,c3]
 |(with_reducible refine CU (WO _ _) ?_)
 |(with_reducible refine aF hQ ?_;exact aP))
end Go.Abs
namespace Go.Abs
mutual
def Ex.tV:Ex→Prop
 |⟨_,n,_,kids⟩=>n≤9223372036854775807∧Ex.Af kids
def Ex.Af:List Ex→Prop
 | []=>True
 |x::l=>x.tV∧Ex.Af l
end
mutual
def Sm.tV:Sm→Prop
 |⟨_,_,_,_,_,x,_,args,aO,aN⟩=>x.tV∧(∀ a∈args,a.x.tV)∧Sm.Af aO∧Sm.Af aN
def Sm.Af:List Sm→Prop
 | []=>True
 |s::l=>s.tV∧Sm.Af l
end
def Pg.tV (p:Pg):Prop:=∀ f∈p.procs,Sm.Af f.body
theorem Km {f:Pc} : ∀ {l:List Pc} {n:Nat},Pc.fV n l=true→f∈l→(isName f.name=true∧fh f.vars=true∧fh f.fin=true∧Pm.gL f.params=true)∧∃ n,(Sm.iJ 1 n f.body).1=true
 |g::l,n,h,m=>by
  simp only[Pc.fV]at h
  split at h
  ·cases h
  rename_i c1
  split at h
  ·cases h
  rename_i c2
  split at h
  ·cases h
  rename_i c3
  simp only[Bool.or_eq_true,Bool.not_eq_true',not_or,Bool.not_eq_false]at c1 c2 c3
  rcases List.mem_cons.1 m with rfl|m
  ·exact⟨⟨c1.1.1.2,c1.1.2,c1.2,c2⟩,n,c3⟩
  ·exact Km h m
mutual
theorem TL : ∀ (s:Sm) (nest:Int) (n:Nat),(Sm.rK nest n s).1=true→s.size<4611686018427387000→s.mD
 |⟨id,kind,labels,name,proc,x,has,args,aO,aN⟩,nest,n,hm,hs=>by
  obtain⟨_,_,h1,h2,h3,_⟩:=Kk hm
  rw[Gl]
  rw[(vU h2).2]at h2
  rw[(vU h3).2]at h3
  refine⟨Nt h1 hs,w8 aO _ _ h2 ?_,w8 aN _ _ h3 ?_⟩<;>simp only[Sm.size]at hs<;>omega
theorem w8 : ∀ (l:List Sm) (nest:Int) (n:Nat),(Sm.fV nest n l).1=true→Sm.aS l<4611686018427387000→Sm.gj l
 | [],_,_,_,_=>by simp only[Sm.gj]
 |s::l,nest,n,hm,hs=>by
  simp only[Sm.fV]at hm
  simp only[Sm.aS]at hs
  split at hm
  ·cases hm
  rename_i hc
  simp only[Bool.not_eq_true',Bool.not_eq_false]at hc
  exact⟨TL s nest n hc (by omega),w8 l nest _ hm (by omega)⟩
end
theorem Kn {p:Pg} (h:p.may=true) (hs:p.size<4611686018427387000):p.ET:=by
 have hf:=Z7 h hs
 rw[← Be]at h
 unfold Pg.Jv at h
 split at h
 ·cases h
 refine⟨hf.sz,hf.sE,hf.ja,fun f m=>?_⟩
 obtain⟨_,n,e⟩:=Km h m
 rw[(vU e).2]at e
 have:=Pc.cu m
 simp only[Pg.size]at hs
 exact w8 f.body 1 n e (by unfold Pc.size at this;omega)
set_option maxRecDepth 8000
open Go.Proofs
theorem aah (x:It):(gx x)[1]? = some (.int .i64 x.s.kind):=nd rfl
theorem aai (x:It):(gx x)[3]? = some (.str x.s.name):=nd rfl
theorem aaj (x:It):(gx x)[4]? = some (.str x.s.proc):=nd rfl
theorem aeK (x:It):List.take 16 (gx x)=gx x:=nd rfl
attribute [go_sem] aah aai aaj aeK
end Go.Abs
namespace Go.Abs
set_option maxRecDepth 8000
open Go.Proofs
def HZ:List Pm→List Ar→Bool
 | [],_=>true
 |_,[]=>true
 |a::l,b::m=>if a.ref==b.ref then HZ l m else false
def EW (l:List Pm) (m:List Ar):Bool:=if(l.length:Int)==(m.length:Int)then HZ l m else false
def Sm.pN (p:Pg) (v:Sm):Bool:=v.kind==4 && match p.find v.proc with|none=>false|some q=>EW q.params v.args
theorem ain {l:List Pm} {m:List Ar} (hl:l.length<1000000000) (hm:m.length<1000000000) (s:St):aH Tryz.prog xS [.slice .shared 2 (l.map iV), .slice .shared 6 (m.map fi)] s (.bool (EW l m)) s:=by
 refine aH.pure ?_ (by simp[D.bF,D.ok,Tag.ok,ak0,LF]) rfl s
 generalize h:EW l m=q
 simp only[EW]at h
 unfold S0
 have b0:((l.length:Int) != (m.length:Int)) = !((l.length:Int)==(m.length:Int)):=rfl
 rcases Bool.eq_false_or_eq_true ((l.length:Int)==(m.length:Int))with b1|b1
 case inr=>
  rw[b1]at b0
  simp only[b1,Bool.false_eq_true,if_false]at h
  subst h
  refine aH.go A4 rfl fun B Q hB hQ=>?_
  have⟨hD,gA,gB,gC⟩:=bP
  repeat' (first
 |simp only[go_sem,hD,gA,gB,gC,b0,Bool.not_false]
 |(with_reducible refine aF hQ ?_;exact aP))
 rw[b1]at b0
 simp only[b1,if_true]at h
 have hlm:l.length=m.length:=by have:=eq_of_beq b1;omega
 refine aH.go A4 rfl fun B Q hB hQ=>?_
 have⟨hD,gA,gB,gC⟩:=bP
 repeat' (first
 |simp only[go_sem,hD,gA,gB,gC,b0,Bool.not_true]
 |(with_reducible refine aF hQ ?_;exact aP))
 refine fz 0 0 (bo.ind (ι:=List Pm×List Ar×Nat) (fun i=>l.drop i.2.2=i.1∧m.drop i.2.2=i.2.1∧HZ i.1 i.2.1=q) (fun i=>i.1.length)
  (fun i=> [(1, .slice .shared 6 (m.map fi)),(12, .slice .shared 2 (l.map iV)),(13, .int .i64 (l.length:Int)),(14, .int .i64 (i.2.2:Int))]) (fun i=>⟨[],[]⟩) ?_ (l,m,0) ⟨rfl,rfl,h⟩)
 rintro⟨r1,r2,k⟩ ⟨h1,h2,h⟩ IH
 dsimp only at h1 h2 h
 cases r1 with
 |nil=>
  have hD:=drop_nil h1
  simp only[HZ]at h
  subst h
  repeat' (first
 |simp only[go_sem,hD,gA,gB,gC]
 |(with_reducible refine aF hQ ?_;exact aP))
 | cons a r1=>
  obtain⟨gA,g2,hD,g4⟩:=drop_cons h1
  cases r2 with
  |nil=>have:=List.drop_eq_nil_iff.1 h2;omega
  | cons b r2=>
   obtain⟨hgb,b2,TN,_⟩:=drop_cons h2
   have cd:k<4611686018427387904:=by omega
   simp only[HZ]at h
   have w1:(true==true)=true:=rfl
   have w2:(false==false)=true:=rfl
   have w3:(true==false)=false:=rfl
   have w4:(false==true)=false:=rfl
   have v1:(true != true)=false:=rfl
   have v2:(false != false)=false:=rfl
   have v3:(true != false)=true:=rfl
   have v4:(false != true)=true:=rfl
   rcases Bool.eq_false_or_eq_true a.ref with ea|ea
   ·rcases Bool.eq_false_or_eq_true b.ref with eb | eb
    ·simp only [ea,eb,w1,w2,if_true]at h
     repeat' (first
 |simp only[go_sem,hD,gA,gB,gC,hgb,TN,ea,eb,w1,w2,v1,v2]
 | (with_reducible refine aF hQ ?_;exact aP))
     refine eQ 0 0 ?_ ?_ (IH (r1,r2,k+1) ⟨g2,b2,h⟩ (Nat.lt_succ_self _))
     ·(simp only[go_sem,hD,gA,gB,gC,aM cd];try exact bQ)
     ·(simp only[go_sem,hD,gA,gB,gC,aM cd];try exact bQ)
    ·simp only [ea,eb,w3,w4,Bool.false_eq_true,if_false]at h
     subst h
     repeat' (first
 |simp only[go_sem,hD,gA,gB,gC,hgb,TN,ea,eb,w3,w4,v3,v4]
 | (with_reducible refine aF hQ ?_;exact aP))
   ·rcases Bool.eq_false_or_eq_true b.ref with eb | eb
    ·simp only [ea,eb,w3,w4,Bool.false_eq_true,if_false]at h
     subst h
     repeat' (first
 |simp only[go_sem,hD,gA,gB,gC,hgb,TN,ea,eb,w3,w4,v3,v4]
 | (with_reducible refine aF hQ ?_;exact aP))
    ·simp only [ea,eb,w1,w2,if_true]at h
     repeat' (first
 |simp only[go_sem,hD,gA,gB,gC,hgb,TN,ea,eb,w1,w2,v1,v2]
 |(with_reducible refine aF hQ ?_;exact aP))
     refine eQ 0 0 ?_ ?_ (IH (r1,r2,k+1) ⟨g2,b2,h⟩ (Nat.lt_succ_self _))
     ·(simp only[go_sem,hD,gA,gB,gC,aM cd];try exact bQ)
     ·(simp only[go_sem,hD,gA,gB,gC,aM cd];try exact bQ)
theorem aio {p:Pg} {v:Sm} (h:p.jE) (hv:v.oV) (s:St):aH Tryz.prog xP [.agg (bK p), .agg (a8 v)] s (.bool (v.pN p)) s:=by
 refine aH.pure ?_ (by simp[D.bF,D.ok,iP,pJ]) rfl s
 obtain⟨td,p8,sT⟩:=h.procs
 have sQ:v.args.length<1000000000:=by have:=Ar.dr v.args;have:=hv.2.2;omega
 generalize hR:v.pN p=R
 simp only[Sm.pN]at hR
 unfold S0
 have b0:(v.kind != 4) = !(v.kind==4):=rfl
 rcases Bool.eq_false_or_eq_true (v.kind==4)with b1|b1
 case inr=>
  rw[b1]at b0
  simp only[b1,Bool.false_and]at hR
  subst hR
  refine aH.go A6 rfl fun B Q hB hQ=>?_
  have⟨hD,gA,gB,gC⟩:=bP
  repeat' (first
 |simp only[go_sem,hD,gA,gB,gC,b0,Bool.not_false]
 |(with_reducible refine aF hQ ?_;exact aP))
 rw[b1]at b0
 simp only[b1,Bool.true_and,Pg.find]at hR
 refine aH.go A6 rfl fun B Q hB hQ=>?_
 have⟨hD,gA,gB,gC⟩:=bP
 repeat' (first
 |simp only[go_sem,hD,gA,gB,gC,b0,Bool.not_true]
 |(with_reducible refine aF hQ ?_;exact aP))
 refine fz 2 0 (bo.ind (ι:=List Pc×Nat) (fun i=>p.procs.drop i.2=i.1∧(match iE v.proc i.1 with|none=>false|some q=>EW q.params v.args)=R) (fun i=>i.1.length)
  (fun i=> [(3, .ptr 1 0),(11, .slice .shared 5 (p.procs.map bJ)),(12, .int .i64 (p.procs.length:Int)),(13, .int .i64 (i.2:Int))]) (fun i=>⟨[bK p,a8 v],[]⟩) ?_ (p.procs,0) ⟨rfl,hR⟩)
 clear hR
 rintro⟨rest,k⟩ ⟨h1,hR⟩ IH
 dsimp only at h1 hR
 cases rest with
 |nil=>
  have hD:=drop_nil h1
  simp only[iE]at hR
  subst hR
  repeat' (first
 |simp only[go_sem,hD,gA,gB,gC]
 |(with_reducible refine aF hQ ?_;exact aP))
 | cons a rest=>
  obtain⟨gA,g2,hD,g4⟩:=drop_cons h1
  have cd:k<4611686018427387904:=by omega
  have x9:=h.small (List.mem_of_getElem? gA)
  have hsa:=fun s=>ain (l:=a.params) (m:=v.args) (by have:=x9.par;omega) sQ s
  simp only[iE]at hR
  rcases Bool.eq_false_or_eq_true (a.name==v.proc)with c1|c1
  ·simp only [c1,if_true]at hR
   subst hR
   repeat' (first
 |simp only[go_sem,hD,gA,gB,gC,c1]
 |(with_reducible refine CU (hsa _) ?_)
 | (with_reducible refine aF hQ ?_;exact aP))
  ·simp only [c1,Bool.false_eq_true,if_false]at hR
   repeat' (first
 |simp only[go_sem,hD,gA,gB,gC,c1]
 | (with_reducible refine aF hQ ?_;exact aP))
   refine eQ 2 0 ?_ ?_ (IH (rest,k+1) ⟨g2,hR⟩ (Nat.lt_succ_self _))
   ·(simp only[go_sem,hD,gA,gB,gC,aM cd];try exact bQ)
   ·(simp only[go_sem,hD,gA,gB,gC,aM cd];try exact bQ)
def H0 (p:Pg):List Sm→Option Sm
 | []=>none
 |v::l=>if v.kind==4 && !(v.pN p)then some v else H0 p l
def rZ (c:Int):Option Sm→Int×Int
 |some v=>(c,v.id)
 |none=>(0,0)
def Pg.arity (p:Pg):Int×Int:=if p.scope.1==0 then rZ 6 (H0 p p.pre)else(1,0)
theorem Pg.jE.pre {p:Pg} (h:p.jE) : ∀ v∈p.pre,v.oV:=fun v m=>by
 simp only[Pg.pre,List.mem_flatten,List.mem_map]at m
 obtain⟨l,⟨f,hf,rfl⟩,m⟩:=m
 exact h.said hf v m
theorem NA {p:Pg} (h:p.jE) (s:St):aH Tryz.prog sg [.agg (bK p)] s (.agg [.int .i64 p.arity.1, .int .i64 p.arity.2]) s:=by
 refine aH.pure ?_ (by simp[D.bF,D.ok,iP]) rfl s
 obtain⟨td,p8,sT⟩:=h.procs
 have rp:=fun s=>x8 h s
 have dw:=fun s=>EP (p:=p) (by omega) s
 have hL:=(kW p).1
 have Bg:=qR p
 generalize hR:p.arity=R
 simp only[Pg.arity]at hR
 unfold S0
 have b0:(p.scope.1 != 0) = !(p.scope.1==0):=rfl
 rcases Bool.eq_false_or_eq_true (p.scope.1==0)with b1|b1
 case inr=>
  rw[b1]at b0
  simp only[b1,Bool.false_eq_true,if_false]at hR
  subst hR
  refine aH.go yX rfl fun B Q hB hQ=>?_
  have⟨hD,gA,gB,gC⟩:=bP
  repeat' (first
 |simp only[go_sem,hD,gA,gB,gC,b0,Bool.not_false]
 |(with_reducible refine CU (rp _) ?_)
 |(with_reducible refine aF hQ ?_;exact aP))
 rw[b1]at b0
 simp only[b1,if_true, ← hL]at hR
 refine aH.go yX rfl fun B Q hB hQ=>?_
 have⟨hD,gA,gB,gC⟩:=bP
 repeat' (first
 |simp only[go_sem,hD,gA,gB,gC,b0,Bool.not_true,qQ]
 |(with_reducible refine CU (rp _) ?_)
 |(with_reducible refine CU (dw _) ?_)
 |(with_reducible refine aF hQ ?_;exact aP))
 refine fz 2 0 (bo.ind (ι:=List Im×Nat) (fun i=>p.bb.L.drop i.2=i.1∧rZ 6 (H0 p (i.1.map Im.s))=R) (fun i=>i.1.length)
  (fun i=> [(1, .ptr 0 0),(2, .ptr 1 0),(14, .slice .shared 17 (p.bb.L.map dM)),(15, .int .i64 (p.bb.L.length:Int)),(16, .int .i64 (i.2:Int))]) (fun i=>⟨[bK p,[.int .i64 0, .int .i64 0]],[]⟩) ?_ (p.bb.L,0) ⟨rfl,hR⟩)
 clear hR
 rintro⟨rest,k⟩ ⟨h1,hR⟩ IH
 dsimp only at h1 hR
 cases rest with
 |nil=>
  have hD:=drop_nil h1
  simp only[List.map_nil,H0,rZ]at hR
  subst hR
  repeat' (first
 |simp only[go_sem,hD,gA,gB,gC]
 |(with_reducible refine aF hQ ?_;exact aP))
 | cons a rest=>
  obtain⟨gA,g2,hD,g4⟩:=drop_cons h1
  have cd:k<4611686018427387904:=by omega
  have CX:a.s∈p.pre:=by rw[← hL];exact List.mem_map_of_mem (List.mem_of_getElem? gA)
  have Qs:=fun s=>aio h (h.pre _ CX) s
  simp only[List.map_cons,H0]at hR
  rcases Bool.eq_false_or_eq_true (a.s.kind==4)with c1|c1
  ·rcases Bool.eq_false_or_eq_true (a.s.pN p)with c2 | c2
   ·simp only [c1,c2,Bool.not_true,Bool.and_false,Bool.false_eq_true,if_false]at hR
    repeat' (first
 |simp only[go_sem,hD,gA,gB,gC,c1,c2]
 |(with_reducible refine CU (Qs _) ?_)
 | (with_reducible refine aF hQ ?_;exact aP))
    refine eQ 2 0 ?_ ?_ (IH (rest,k+1) ⟨g2,hR⟩ (Nat.lt_succ_self _))
    ·(simp only[go_sem,hD,gA,gB,gC,aM cd];try exact bQ)
    ·(simp only[go_sem,hD,gA,gB,gC,aM cd];try exact bQ)
   ·simp only [c1,c2,Bool.not_false,Bool.and_true,if_true,rZ]at hR
    subst hR
    repeat' (first
 |simp only[go_sem,hD,gA,gB,gC,c1,c2]
 |(with_reducible refine CU (Qs _) ?_)
 | (with_reducible refine aF hQ ?_;exact aP))
  ·simp only [c1,Bool.false_and,Bool.false_eq_true,if_false]at hR
   repeat' (first
 |simp only[go_sem,hD,gA,gB,gC,c1]
 |(with_reducible refine CU (Qs _) ?_)
 | (with_reducible refine aF hQ ?_;exact aP))
   refine eQ 2 0 ?_ ?_ (IH (rest,k+1) ⟨g2,hR⟩ (Nat.lt_succ_self _))
   ·(simp only[go_sem,hD,gA,gB,gC,aM cd];try exact bQ)
   ·(simp only[go_sem,hD,gA,gB,gC,aM cd];try exact bQ)
theorem D6 {p:Pg} (h:(p.scope.1==0)=true):p.may=true:=by
 unfold Pg.scope at h
 split at h
 ·assumption
 ·cases h
def oX (out:List aK):List aK→aK→Bool→aK×Bool
 | [],c,a=>(c,a)
 |s::l,c,a=>if !(fH out s) && (!a ||bytesLess s c)then oX out l s true else oX out l c a
def WQ (l out:List aK):List aK:=if(oX out l [] false).2 then out++ [(oX out l [] false).1]else out
def rl (l:List aK):Nat→List aK→List aK
 | 0,out=>out
 |n+1,out=>rl l n (WQ l out)
def lB (l:List aK):List aK:=rl l l.length []
end Go.Abs
namespace Go.Proofs
open Go.Shelf
def Tryz.PD:Go.Shelf.Ren:=⟨fun| 190=>173| 125=>194| 258=>193| 128=>217| 129=>218| 302=>208| 303=>209| 304=>210| 305=>211| 306=>212| 307=>213| 308=>214| 309=>215| 310=>216| 333=>224| 329=>225| 330=>226| 334=>227| 335=>228| 336=>229| 344=>230|n=>n,fun| 31=>22| 9=>9| 3=>3| 46=>208| 0=>0| 51=>227| 53=>194| 4=>4| 183=>220| 182=>219| 131=>139| 5=>5| 218=>231| 222=>235| 228=>237| 229=>238|n=>n,fun|n=>n⟩
theorem Tryz.Qt:Go.Proofs.Lays.n190 Tryz.prog Tryz.PD:= {
 mixed:=by kernel_rfl
 f125:=Tryz.func194.trans (congrArg some (by kernel_rfl))
 f128:=Tryz.func217.trans (congrArg some (by kernel_rfl))
 f129:=Tryz.func218.trans (congrArg some (by kernel_rfl))
 f190:=Tryz.func173.trans (congrArg some (by kernel_rfl))
 f258:=Tryz.func193.trans (congrArg some (by kernel_rfl))
 f302:=Tryz.func208.trans (congrArg some (by kernel_rfl))
 f303:=Tryz.func209.trans (congrArg some (by kernel_rfl))
 f304:=Tryz.func210.trans (congrArg some (by kernel_rfl))
 f305:=Tryz.func211.trans (congrArg some (by kernel_rfl))
 f306:=Tryz.func212.trans (congrArg some (by kernel_rfl))
 f307:=Tryz.func213.trans (congrArg some (by kernel_rfl))
 f308:=Tryz.func214.trans (congrArg some (by kernel_rfl))
 f309:=Tryz.func215.trans (congrArg some (by kernel_rfl))
 f310:=Tryz.func216.trans (congrArg some (by kernel_rfl))
 f329:=Tryz.func225.trans (congrArg some (by kernel_rfl))
 f330:=Tryz.func226.trans (congrArg some (by kernel_rfl))
 f333:=Tryz.func224.trans (congrArg some (by kernel_rfl))
 f334:=Tryz.func227.trans (congrArg some (by kernel_rfl))
 f335:=Tryz.func228.trans (congrArg some (by kernel_rfl))
 f336:=Tryz.func229.trans (congrArg some (by kernel_rfl))
 f344:=Tryz.func230.trans (congrArg some (by kernel_rfl))
 t0:=Tryz.underlying0
 a0:=Tryz.isAgg0
 z0:=Tryz.sizeOf0
 v0:=Tryz.zeroValue0
 t3:=Tryz.underlying3
 a3:=Tryz.isAgg3
 z3:=Tryz.sizeOf3
 v3:=Tryz.zeroValue3
 t4:=Tryz.underlying4
 a4:=Tryz.isAgg4
 z4:=Tryz.sizeOf4
 v4:=Tryz.zeroValue4
 t5:=Tryz.underlying5
 a5:=Tryz.isAgg5
 z5:=Tryz.sizeOf5
 v5:=Tryz.zeroValue5
 t9:=Tryz.underlying9
 a9:=Tryz.isAgg9
 z9:=Tryz.sizeOf9
 v9:=Tryz.zeroValue9
 t31:=Tryz.underlying22
 a31:=Tryz.isAgg22
 z31:=Tryz.sizeOf22
 v31:=Tryz.zeroValue22
 t46:=Tryz.underlying208
 a46:=Tryz.isAgg208
 z46:=Tryz.sizeOf208
 v46:=Tryz.zeroValue208
 t51:=Tryz.underlying227
 a51:=Tryz.isAgg227
 z51:=Tryz.sizeOf227
 v51:=Tryz.zeroValue227
 t53:=Tryz.underlying194
 a53:=Tryz.isAgg194
 z53:=Tryz.sizeOf194
 v53:=Tryz.zeroValue194
 t131:=Tryz.underlying139
 a131:=Tryz.isAgg139
 z131:=Tryz.sizeOf139
 v131:=Tryz.zeroValue139
 t182:=Tryz.underlying219
 a182:=Tryz.isAgg219
 z182:=Tryz.sizeOf219
 v182:=Tryz.zeroValue219
 t183:=Tryz.underlying220
 a183:=Tryz.isAgg220
 z183:=Tryz.sizeOf220
 v183:=Tryz.zeroValue220
 t218:=Tryz.underlying231
 a218:=Tryz.isAgg231
 z218:=Tryz.sizeOf231
 v218:=Tryz.zeroValue231
 t222:=Tryz.underlying235
 a222:=Tryz.isAgg235
 z222:=Tryz.sizeOf235
 v222:=Tryz.zeroValue235
 t228:=Tryz.underlying237
 a228:=Tryz.isAgg237
 z228:=Tryz.sizeOf237
 v228:=Tryz.zeroValue237
 t229:=Tryz.underlying238
 a229:=Tryz.isAgg238
 z229:=Tryz.sizeOf238
 v229:=Tryz.zeroValue238}
open Go.Sort Go.RowKit in
theorem Tryz.slices_Sort_string (D7 off cap:Nat) (ss:List (List UInt8)) (w:World) (hH:Holds encStr w D7 off ss.toArray) (auA:D7<w.heap.size) (dL:ss.length<4611686018427387904) :
 Calls Tryz.prog 173 #[.slice (some ⟨D7,off,none⟩) ss.length cap] w fun e w'=>
  e = .returned (.tuple #[])∧∃ n os,w'=grow (putRow encStr (Sort.ahead w n) D7 off (ss.mergeSort fun x y=>decide (x≤y)).toArray) os:=Any.slices_Sort_string Tryz.Qt D7 off cap ss w hH auA dL
def Tryz.PE:Go.Shelf.Ren:=⟨fun| 194=>174|n=>n,fun| 31=>22| 9=>9| 3=>3| 4=>4| 0=>0|n=>n,fun|n=>n⟩
theorem Tryz.Qu:Go.Proofs.Lays.n194 Tryz.prog Tryz.PE:= {
 mixed:=by kernel_rfl
 f194:=Tryz.func174.trans (congrArg some (by kernel_rfl))
 t0:=Tryz.underlying0
 a0:=Tryz.isAgg0
 z0:=Tryz.sizeOf0
 v0:=Tryz.zeroValue0
 t3:=Tryz.underlying3
 a3:=Tryz.isAgg3
 z3:=Tryz.sizeOf3
 v3:=Tryz.zeroValue3
 t4:=Tryz.underlying4
 a4:=Tryz.isAgg4
 z4:=Tryz.sizeOf4
 v4:=Tryz.zeroValue4
 t9:=Tryz.underlying9
 a9:=Tryz.isAgg9
 z9:=Tryz.sizeOf9
 v9:=Tryz.zeroValue9
 t31:=Tryz.underlying22
 a31:=Tryz.isAgg22
 z31:=Tryz.sizeOf22
 v31:=Tryz.zeroValue22}
open Go.RowKit Go.Lib Go.Sort in
theorem Tryz.slices_Compact_string (D7 off cap:Nat) (zs:List (List UInt8)) (w:World) (hH:Holds encStr w D7 off zs.toArray) (dL:zs.length≤9223372036854775807) (wc:zs.length≤cap) :
 Calls Tryz.prog 174 #[.slice (some ⟨D7,off,none⟩) zs.length cap] w fun e w'=>e = .returned (.slice (some ⟨D7,off,none⟩) (Lib.compact zs).length cap)∧∃ q,w'=putRow encStr (Sort.ahead w q) D7 off (Lib.compact zs++List.replicate (zs.length - (Lib.compact zs).length) []).toArray:=Any.slices_Compact_string Tryz.Qu D7 off cap zs w hH dL wc
open Go.RowKit Go.Lib Go.Sort in
theorem Tryz.slices_Compact_string_empty (a:Option Addr) (cap:Nat) (w:World) :
 Calls Tryz.prog 174 #[.slice a 0 cap] w fun e w'=>e = .returned (.slice a 0 cap)∧w'=w:=Any.slices_Compact_string_empty Tryz.Qu a cap w
open Go.RowKit Go.Sort in
theorem Tryz.slices_Sort_string_none (p:Option Addr) (cap:Nat) (w:World) :
 Calls Tryz.prog 173 #[.slice p 0 cap] w fun e w'=>e = .returned (.tuple #[])∧w'=w:=Any.slices_Sort_string_none Tryz.Qt p cap w
end Go.Proofs
namespace Go.Abs
open Go.Proofs
section
variable {P:Program} {B:ic} {nt:Nat}
theorem aeL {x:Operand} {t:Nat} (h:cX x=some (.s t)):x = .tmp t:=by
 unfold cX at h
 split at h
 ·cases h;rfl
 ·obtain⟨d,_,h⟩:=map_some h;cases h
 ·cases h
 ·cases h
theorem TQ {ops:Array Oper} {o:Oper} {g g':Option (Nat×Bool)} {dst:Option Nat} {f:Nat} {xs:List X} (h:u7 P ops o g=some (.call dst g' f xs)) :
 g'=g∧∃ args oj,o.op = .call ⟨.value (.func f),args,oj⟩∧enters P f=true∧Ax args.toList=some xs:=by
 unfold u7 at h
 split at h
 ·rename_i f' args oj oi
  split at h
  ·rename_i he
   obtain⟨xs',h1,h2⟩:=map_some h
   cases h2
   exact⟨rfl,args,oj,oi,he,h1⟩
  ·cases h
 ·obtain⟨_,_,h⟩:=map_some h;cases h
 ·split at h
  ·cases h
  ·split at h<;>cases h
theorem WR {ops:Array Oper} {o:Oper} {tmps:Array Value} (hg:xq ops o.guard=some none):Region.wanted o (yielded ops tmps)=true:=by
 have:o.guard=none:=by
  cases JU:o.guard with
  |none=>rfl
  |some p=>
   obtain⟨j,b⟩:=p
   rw[JU]at hg
   unfold xq at hg
   simp only at hg
   split at hg<;>cases hg
 simp[Region.wanted,this]
theorem Sem.aiq {a k b f:Nat} {is:List AI} {Q:Exit→Tm→St→Prop} {tm:Tm} {s:St}
 (TR : ∀ act w,Holds B nt (tm.put (some a) (tm.get k)) s act w→Calls P f #[act.tmps.getD a Go.undef] w fun e w'=>∃ v,e = .returned v∧∃ bE s',Holds B nt bE s' (act.put (some b) v) w'∧jT P is (Q .normal) bE s') :
 Sem P B nt (.run (.op (some a) none (.mv (.s k)):: .call (some b) none f [.s a]::is)) Q tm s:=by
 intro c hc act w hh
 obtain⟨id,ops,rfl,hi⟩:=ng hc
 refine wp_region ?_
 have key : ∀ (l:List Nat) (ol:List Oper),l.map (ops[·]?)=ol.map some→s5 P nt ops ol=some (.op (some a) none (.mv (.s k)):: .call (some b) none f [.s a]::is)→wpOps P ops (rG B nt Q) l act w:=by
  intro l ol hl zP
  match ol,l,hl with
  | [],_,_=>simp[s5]at zP
  |o0::ol,[],hl=>simp at hl
  | o0::ol,j0::l,hl=>
   simp only[List.map_cons,List.cons.injEq]at hl
   obtain⟨hj0,hl⟩:=hl
   unfold s5 at zP
   split at zP
   ·rename_i i0 is0 h1 h2
    cases zP
    match ol,l,hl,h2 with
    | [],_,_,h2=>simp[s5]at h2
    |o1::ol,[],hl,_=>simp at hl
    | o1::ol,j1::l,hl,h2=>
     simp only[List.map_cons,List.cons.injEq]at hl
     obtain⟨hj1,hl⟩:=hl
     unfold s5 at h2
     split at h2
     ·rename_i i1 is1 h3 h4
      cases h2
      obtain⟨M,e,r,ht,hn,hd⟩:=hh
      have zb:=vK h1
      have DL:=vK h3
      simp only[AI.dst]at zb DL
      refine zO (K':=fun bE s'=>bE=tm.put (some a) (tm.get k)∧s'=s) hj0 h1 r (B.laid.ext e) ht (by simp only[jT,guarded,aY,X.ev,and_self]) (fun d v s1 w1 M1 hk e1 r1 hv=>?_)
      obtain⟨yG,rfl⟩:=hk
      have hH:=Holds.put e ht hn hd (AP h1) e1 r1 hv
      simp only[AI.dst]at yG
      rw[← zb]at hH ⊢
      rw[yG]at hH
      obtain⟨g,hg,_,hb⟩:=DH h3
      obtain⟨rfl,args,oj,oi,Bz,qo⟩:=TQ hb
      simp only[wpOps,hj1,WR hg,if_true]
      left
      have auB:args.map (act.put (some a) v).eval = #[(act.put (some a) v).tmps.getD a Go.undef]:=by
       have:args.toList = [.tmp a]:=by
        match hA:args.toList with
        | []=>rw[hA]at qo;simp[Ax]at qo
        | [x]=>
         rw[hA]at qo
         simp only[Ax]at qo
         split at qo
         ·rename_i x' r' hx hr
          cases qo
          rw[aeL hx]
         ·cases qo
        | x::y::z=>
         rw[hA]at qo
         simp only[Ax]at qo
         split at qo
         ·rename_i x' r' hx hr
          cases qo
          split at hr
          ·cases hr
          ·cases hr
         ·cases qo
       have:args = #[.tmp a]:=by rw[← Array.toArray_toList (xs:=args),this]
       rw[this]
       simp only[List.map_toArray,List.map_cons,List.map_nil]
       rfl
      have hex:(execOp (act.put (some a) v).eval o1).run P w1 = .ok (.enter f #[(act.put (some a) v).tmps.getD a Go.undef]) w1:=by
       obtain⟨dst,op,type,pos,after,guard⟩:=o1
       simp only at oi
       subst oi
       rw[← auB]
       exact zK (act.put (some a) v).eval dst f args oj type pos after guard rfl Bz w1
      unfold Oper.wp
      rw[hex,Oper.upon_enter]
      refine(TR _ _ hH).mono ?_
      rintro en w' ⟨v',rfl,bE,s',hH',hvc⟩
      rw[← DL]
      exact DE (Q:=Q) l ol _ hl h4 bE s' _ w' hvc hH'
     ·cases h2
   ·cases zP
 exact key _ _ (DF ops) hi
theorem Ko (hB:B.s = ⟨[],[]⟩) {tm:Tm} {s:St} {act:Act} {w:World} (h:Holds B nt tm s act w) {t:Nat} {l:List aK} (ht:s.az[t]? = some (some l.length)) {k0:Nat} (hk0:tm.get k0 = .slice (.tok t) 1 (l.map encStr)) :
 (l = []∧∀ k,tm.get k = .slice (.tok t) 1 (l.map encStr)→(act.tmps.getD k Go.undef = .slice none 0 0∨∃ b q,act.tmps.getD k Go.undef = .slice (some ⟨b,q,none⟩) 0 0))∨
 ∃ (b cap:Nat) (vs:Array Value) (T:TypeId),(∀ k,tm.get k = .slice (.tok t) 1 (l.map encStr)→act.tmps.getD k Go.undef = .slice (some ⟨b,0,none⟩) l.length cap)∧l.length≤cap∧w.heap[b]? = some (.cells vs T (0,0))∧vs.size=cap∧B.w.heap.size≤b∧
  ∀ j (hj:j<l.length),vs[j]? = some (.string ⟨⟨l[j]⟩⟩):=by
 obtain⟨M,e,r,hr,_,_⟩:=h
 rcases r.tok t _ ht with ⟨h3,h4⟩|⟨b,cap,z,vs,T,h3,h4,h5,h6,h7⟩
 ·have hl:l = []:=List.eq_nil_of_length_eq_zero h4
  subst hl
  refine .inl ⟨rfl,fun k hk=>?_⟩
  have hv:=hr k
  rw[hk]at hv
  generalize act.tmps.getD k Go.undef=v at hv
  cases hv with
  |jH _ _ cap hc ry=>subst hc;exact .inl rfl
  |slice _ _ _ b q cap hl hs h1 h2 ry=>
   rcases(ry.2 _ ht).2 rfl with ⟨_,h0,_⟩|⟨b',_,l7⟩
   ·subst h0;exact .inr ⟨b,q,rfl⟩
   ·rw[h3]at l7;cases l7
 ·right
  have each : ∀ k,tm.get k = .slice (.tok t) 1 (l.map encStr)→z=1∧act.tmps.getD k Go.undef = .slice (some ⟨b,0,none⟩) l.length cap∧l.length≤cap∧∀ j (hj:j<l.length),∃ u,M.G b j=some u∧RD M s (.str l[j]) u:=by
   intro k hk
   have hv:=hr k
   rw[hk]at hv
   generalize act.tmps.getD k Go.undef=v at hv
   generalize lx:l.map encStr=rows at hv
   cases hv with
   |jH _ _ cap hc ry=>
    have hl:l = []:=by cases l<;>simp at lx;rfl
    subst hl
    rcases(ry.2 _ ht).2 rfl with ⟨h0,_⟩|⟨b',h0,_⟩
    ·rw[h3]at h0;cases h0
    ·cases h0
   | slice _ _ _ b2 q aCF hl hs h1 h2 ry=>
    subst lx
    rw[List.length_map]at hl ry
    rcases(ry.2 _ ht).2 rfl with ⟨h0,_⟩|⟨b',hb,l7⟩
    ·rw[h3]at h0;cases h0
    ·cases hb
     rw[h3]at l7
     cases l7
     refine⟨rfl,by rw[List.length_map],hl,fun j hj=>?_⟩
     have e1:(l.map encStr)[j]? = some [.str l[j]]:=by rw[List.getElem?_map,List.getElem?_eq_getElem hj];rfl
     obtain⟨u,hu⟩:=h1 j _ 0 _ e1 rfl
     refine⟨u,by simpa using hu,h2 j _ 0 _ u e1 rfl hu⟩
  obtain⟨rfl,_,wc,nS⟩:=each k0 hk0
  have dw:B.w.heap.size≤b:=by
   rcases e.rD t b cap 1 ⟨_,ht⟩ h3 with ⟨⟨n,hn⟩,_⟩|h
   ·rw[hB]at hn;simp at hn
   ·exact h
  refine⟨b,cap,vs,T,fun k hk=>(each k hk).2.1,wc,h4,by simpa[zs]using h5,dw,fun j hj=>?_⟩
  obtain⟨u,hu,jI⟩:=nS j hj
  have:=(r.comm _ _ _ hu).1
  rw[jy h4,jI.mR]at this
  exact this
theorem NB (hB:B.s = ⟨[],[]⟩) {tm:Tm} {s:St} {act wD:Act} {w w':World} (h:Holds B nt tm s act w) {b cap:Nat} {vs:Array Value} {T:TypeId} (dL:vs.size=cap) (vl:B.w.heap.size≤b)
 (nO : ∀ q,q<B.w.heap.size→w'.heap[q]? = w.heap[q]?) (eI:w'.heap[b]? = some (.cells vs T (0,0))) (yI:w.heap.size≤w'.heap.size) (ux:w'.os=w.os) (Hg:w'.tape=w.tape) (Yk:w'.output=w.output)
 {l:List aK} (hl:l.length≤cap) (nS : ∀ j (hj:j<l.length),vs[j]? = some (.string ⟨⟨l[j]⟩⟩)) {k:Nat} (TS:wD.tmps.getD k Go.undef = .slice (some ⟨b,0,none⟩) l.length cap) (hn:wD.tmps.size=nt) (hd:wD.defers = []) :
 Holds B nt [(k, .slice (.tok 0) 1 (l.map encStr))] ⟨[],[some l.length]⟩ wD w':=by
 obtain⟨M,e,r,hr,_,_⟩:=h
 let M':Map:=⟨fun q o=>if q=b then(if o<l.length then(l[o]?).map fun x=>Value.string ⟨⟨x⟩⟩else none)else B.M.G q o,B.M.loc,fun _=>some (b,cap,1)⟩
 have hGb : ∀ q o v,B.M.G q o=some v→q<B.w.heap.size∧w'.cell? ⟨q,o,none⟩=some v∧v.oneCell'=true:=by
  intro q o v hq
  obtain⟨h1,h2⟩:=r.comm q o v (e.le.G q o v hq)
  have hD:=B.Fv q o v hq
  refine⟨hD, ?_,h2⟩
  rw[← h1]
  simp[World.cell?,nO q hD]
 have jA : ∀ j (hj:j<l.length),w'.cell? ⟨b,j,none⟩=some (.string ⟨⟨l[j]⟩⟩):=fun j hj=>by rw[jy eI];exact nS j hj
 have gA : ∀ (j:Nat) v,(if j<l.length then(l[j]?).map fun x=>Value.string ⟨⟨x⟩⟩else none)=some v→∃ hj:j<l.length,v = .string ⟨⟨l[j]⟩⟩:=by
  intro j v hv
  split at hv
  ·rename_i hj
   rw[List.getElem?_eq_getElem hj]at hv
   exact⟨hj,by simpa using hv.symm⟩
  ·cases hv
 refine⟨M',⟨⟨fun q o v hq=>?_,by simp[hB],fun o ho=> .refl _,by rw[hB];exact Nat.zero_le _,fun t n' ht _=>by rw[hB]at ht;exact absurd ht (Nat.not_lt_zero _)⟩,fun q hq _ _=>?_,fun o _ h2=>absurd h2 (Nat.not_lt_zero _),fun t q c z _ hb=>?_,fun q o fu=>?_,Nat.le_trans e.size yI,ux.trans e.os,Hg.trans e.tape,Yk.trans e.output⟩,
  ⟨fun q o v hq=>?_,fun o ds ho=>by simp at ho,fun o ho=>absurd ho (Nat.not_lt_zero _),fun o o' ho=>absurd ho (Nat.not_lt_zero _),fun t n ht=>?_,fun t q c z o _ _ ho=>absurd ho (Nat.not_lt_zero _),fun t t' q c z c' z' vR ku _ _=>?_⟩,fun u=>?_,hn,hd⟩
 ·show(if q=b then _ else B.M.G q o)=some v
  rw[if_neg (by have:=(hGb q o v hq).1;omega)]
  exact hq
 ·rw [nO q hq]
  exact e.kept q hq (fun o ho=>by rw[hB]at ho;exact absurd ho (Nat.not_lt_zero _)) (fun t c z ku=>by rw[hB]at ku;obtain⟨n,CS⟩:=ku;simp at CS)
 ·cases hb;exact .inr vl
 ·by_cases hq:q=b
  ·subst hq;exact .inl vl
  ·exact absurd (show(if q=b then _ else B.M.G q o)=B.M.G q o from if_neg hq) fu
 ·have lq:(if q=b then(if o<l.length then(l[o]?).map fun x=>Value.string ⟨⟨x⟩⟩else none)else B.M.G q o)=some v:=hq
  by_cases hqb:q=b
  ·rw [if_pos hqb]at lq
   obtain⟨hj,rfl⟩:=gA o v lq
   rw[hqb]
   exact⟨jA o hj,rfl⟩
  ·rw [if_neg hqb]at lq
   exact(hGb q o v lq).2
 ·match t with
  | 0=>
   simp at ht
   subst ht
   refine .inr ⟨b,cap,1,vs,T,rfl,eI,by simp[zs,dL],hl,fun off ho=>?_,fun h=>by cases h⟩
   show(if b=b then(if off<l.length then _ else none)else B.M.G b off)=none
   rw[if_pos rfl,if_neg (by simp[zs]at ho;omega)]
  |t+1=>simp at ht
 ·obtain⟨n1,h1⟩:=vR
  obtain⟨n2,h2⟩:=ku
  have a1:=(List.getElem?_eq_some_iff.1 h1).1
  have a2:=(List.getElem?_eq_some_iff.1 h2).1
  simp at a1 a2
  omega
 ·simp only [Tm.get]
  split
  ·rename_i hku
   subst hku
   rw[TS]
   have:=RD.slice (M:=M') (s:=⟨[],[some l.length]⟩) (.tok 0) 1 (l.map encStr) b 0 cap (by simpa using hl) (fun row hr=>by
    obtain⟨x,_,rfl⟩:=List.mem_map.1 hr;rfl) (fun i row j d e1 e2=>?_) (fun i row j d u e1 e2 eu=>?_) ⟨by simp,fun n CS=>by
    simp at CS
    subst CS
    exact⟨by simp,fun _=> .inr ⟨b,rfl,rfl⟩⟩⟩
   ·simpa using this
   ·rw [List.getElem?_map]at e1
    cases CF:l[i]? with
    |none=>rw[CF]at e1;cases e1
    |some x=>
     have qH:=(List.getElem?_eq_some_iff.1 CF).1
     rw[CF]at e1
     cases e1
     have hj:j=0:=by cases j with|zero=>rfl|succ j=>simp[encStr]at e2
     subst hj
     refine⟨.string ⟨⟨x⟩⟩, ?_⟩
     show(if b=b then(if 0+(i*1+0)<l.length then _ else none)else _)=_
     rw[if_pos rfl,if_pos (by omega)]
     simp[CF]
   ·rw [List.getElem?_map]at e1
    cases CF:l[i]? with
    |none=>rw[CF]at e1;cases e1
    |some x=>
     have qH:=(List.getElem?_eq_some_iff.1 CF).1
     rw[CF]at e1
     cases e1
     have hj:j=0:=by cases j with|zero=>rfl|succ j=>simp[encStr]at e2
     subst hj
     have CJ:(if b=b then(if 0+(i*1+0)<l.length then(l[0+(i*1+0)]?).map fun x=>Value.string ⟨⟨x⟩⟩else none)else B.M.G b (0+(i*1+0)))=some u:=eu
     rw[if_pos rfl,if_pos (by omega)]at CJ
     simp[CF]at CJ
     subst CJ
     simp[encStr]at e2
     subst e2
     exact .str x
  ·exact .junk _
theorem Qv (hB:B.s = ⟨[],[]⟩) {tm:Tm} {s:St} {act wD:Act} {w:World} (h:Holds B nt tm s act w) {k:Nat} (TS:wD.tmps.getD k Go.undef = .slice none 0 0∨∃ b q,wD.tmps.getD k Go.undef = .slice (some ⟨b,q,none⟩) 0 0) (hn:wD.tmps.size=nt) (hd:wD.defers = []) :
 Holds B nt [(k, .slice (.tok 0) 1 (([] : List aK).map encStr))] ⟨[],[some 0]⟩ wD w:=by
 obtain⟨M,e,r,hr,_,_⟩:=h
 let M':Map:=⟨B.M.G,B.M.loc,fun _=>none⟩
 refine⟨M',⟨⟨fun q o v hq=>hq,by simp[hB],fun o ho=> .refl _,by rw[hB];exact Nat.zero_le _,fun t n' ht _=>by rw[hB]at ht;exact absurd ht (Nat.not_lt_zero _)⟩,fun q hq _ _=>?_,fun o _ h2=>absurd h2 (Nat.not_lt_zero _),fun t q c z _ hb=>(by cases hb),fun q o fu=>absurd rfl fu,e.size,e.os,e.tape,e.output⟩,
  ⟨fun q o v hq=>r.comm q o v (e.le.G q o v hq),fun o ds ho=>by simp at ho,fun o ho=>absurd ho (Nat.not_lt_zero _),fun o o' ho=>absurd ho (Nat.not_lt_zero _),fun t n ht=>?_,fun t q c z o _ _ ho=>absurd ho (Nat.not_lt_zero _),fun t t' q c z c' z' vR ku h1 _=>by cases h1⟩,fun u=>?_,hn,hd⟩
 ·exact e.kept q hq (fun o ho=>by rw[hB]at ho;exact absurd ho (Nat.not_lt_zero _)) (fun t c z ku=>by rw[hB]at ku;obtain⟨n,CS⟩:=ku;simp at CS)
 ·match t with
  | 0=>simp at ht;subst ht;exact .inl ⟨rfl,rfl⟩
  |t+1=>simp at ht
 ·simp only [Tm.get]
  split
  ·rename_i hku
   subst hku
   have ry : ∀ base,jL M' ⟨[],[some 0]⟩ (.tok 0) 1 0 base 0:=fun base=>⟨by simp,fun n CS=>by
    simp at CS
    subst CS
    exact⟨Nat.le_refl _,fun _=> .inl ⟨rfl,rfl,fun h=>by cases h⟩⟩⟩
   rcases TS with h|⟨b,q,h⟩
   ·rw[h];exact .jH _ _ 0 rfl (ry none)
   ·rw[h];exact .slice (.tok 0) 1 [] b q 0 (Nat.le_refl _) (by simp) (by simp) (by simp) (ry _)
  ·exact .junk _
theorem NC {α:Type} [Inhabited α] (enc:α→Value) (d:Array α) (c:Array Value) (j:Nat):(Sort.putCells enc 0 d c)[j]? = if j<d.size then(c[j]?).map fun _=>enc d[j]! else c[j]? :=by
 simp only[Sort.putCells,Array.getElem?_mapIdx]
 cases h:c[j]? with
 |none=>simp
 |some x=>by_cases hj:j<d.size<;>simp[hj]
theorem Kp {w:World} {b n cap:Nat} {vs:Array Value} {T:TypeId} (eI:w.heap[b]? = some (.cells vs T (0,0))) (dL:vs.size=cap) (l:List aK) (hl:l.length≤cap) (os:Array Obj) :
 (∀ q,q≠b→q<w.heap.size→(Sort.grow (Sort.putRow Go.Proofs.encStr (Sort.ahead w n) b 0 l.toArray) os).heap[q]? = w.heap[q]?)∧
 (Sort.grow (Sort.putRow Go.Proofs.encStr (Sort.ahead w n) b 0 l.toArray) os).heap[b]? = some (.cells (Sort.putCells Go.Proofs.encStr 0 l.toArray vs) T (0,0))∧w.heap.size≤(Sort.grow (Sort.putRow Go.Proofs.encStr (Sort.ahead w n) b 0 l.toArray) os).heap.size∧
 (Sort.putCells Go.Proofs.encStr 0 l.toArray vs).size=cap∧∀ j (hj:j<l.length),(Sort.putCells Go.Proofs.encStr 0 l.toArray vs)[j]? = some (.string ⟨⟨l[j]⟩⟩):=by
 have hb:b<w.heap.size:=(Array.getElem?_eq_some_iff.1 eI).1
 refine⟨fun q hq hD=>?_, ?_, ?_, ?_,fun j hj=>?_⟩
 ·simp only [Sort.grow,Sort.putRow,Sort.mapBlock,Sort.ahead]
  rw[Array.getElem?_append_left (by simpa using hD),Array.getElem?_modify]
  simp[Ne.symm hq]
 ·simp only [Sort.grow,Sort.putRow,Sort.mapBlock,Sort.ahead]
  rw[Array.getElem?_append_left (by simpa using hb),Array.getElem?_modify]
  simp[eI,Sort.onCells]
 ·simp[Sort.grow,Sort.putRow,Sort.mapBlock,Sort.ahead]
 ·simp[Sort.putCells,dL]
 ·rw [NC]
  have h1:j<l.toArray.size:=by simpa using hj
  have h2:vs[j]? = some vs[j]:=Array.getElem?_eq_getElem (by omega)
  rw[if_pos h1,h2]
  simp[hj]
def nX (l:List aK):List aK:=l.mergeSort fun x y=>decide (x≤y)
theorem ND {act:Act} {b:Nat} {v:Value} {u:Nat} (h:u≠b):(act.put (some b) v).tmps.getD u Go.undef=act.tmps.getD u Go.undef:=by
 simp only[Act.put,Array.getD_eq_getD_getElem?]
 rw[Array.getElem?_setIfInBounds_ne (fun e=>h e.symm)]
theorem Kq {act:Act} {b:Nat} {v:Value} (h:b<act.tmps.size):(act.put (some b) v).tmps.getD b Go.undef=v:=by
 simp only[Act.put,Array.getD_eq_getD_getElem?]
 simp[h]
theorem Sem.sort (hB:B.s = ⟨[],[]⟩) {a k b t:Nat} {l:List aK} {is:List AI} {Q:Exit→Tm→St→Prop} {tm:Tm} {s:St} (hak:a≠k) (hbk:b≠k) (hab:a≠b)
 (hk:tm.get k = .slice (.tok t) 1 (l.map encStr)) (ht:s.az[t]? = some (some l.length)) (hl:l.length<4611686018427387904)
 (h:jT Tryz.prog is (Q .normal) [(k, .slice (.tok 0) 1 ((nX l).map encStr))] ⟨[],[some l.length]⟩) :
 Sem Tryz.prog B nt (.run (.op (some a) none (.mv (.s k)):: .call (some b) none kH [.s a]::is)) Q tm s:=by
 refine Sem.aiq fun act w hh=>?_
 have Cz:(tm.put (some a) (tm.get k)).get k = .slice (.tok t) 1 (l.map encStr):=by rw[Tm.mU,if_neg (by simpa using hak)];exact hk
 have NF:(tm.put (some a) (tm.get k)).get a = .slice (.tok t) 1 (l.map encStr):=by rw[Tm.mU,if_pos rfl];exact hk
 have H2:(nX l).length=l.length:=List.length_mergeSort l
 have hn:(act.put (some b) (.tuple #[])).tmps.size=nt:=by obtain⟨_,_,_,_,h1,_⟩:=hh;simpa[Act.put]using h1
 have hd:(act.put (some b) (.tuple #[])).defers = []:=by obtain⟨_,_,_,_,_,h1⟩:=hh;simpa[Act.put]using h1
 have dL:(act.tmps).size=nt:=by obtain⟨_,_,_,_,h1,_⟩:=hh;exact h1
 rcases Ko hB hh ht NF with ⟨rfl,hv⟩|⟨b',cap,vs,T,hv,wc,eI,pW,vl,nS⟩
 ·rw [show nX [] = [] by simp [nX]]at h
  have call : ∀ p,act.tmps.getD a Go.undef = .slice p 0 0→Calls Tryz.prog kH #[act.tmps.getD a Go.undef] w fun e w'=>∃ v,e = .returned v∧∃ bE s',Holds B nt bE s' (act.put (some b) v) w'∧jT Tryz.prog is (Q .normal) bE s':=by
   intro p hp
   rw[hp]
   refine(Tryz.slices_Sort_string_none p 0 w).mono ?_
   rintro e w' ⟨rfl,rfl⟩
   refine⟨_,rfl,_,_,Qv hB hh (k:=k) ?_ hn hd,h⟩
   rw[ND (Ne.symm hbk)]
   exact hv k Cz
  rcases hv a NF with h1|⟨b',q,h1⟩
  ·exact call _ h1
  ·exact call _ h1
 ·rw [hv a NF]
  have hD:b'<w.heap.size:=(Array.getElem?_eq_some_iff.1 eI).1
  refine(Tryz.slices_Sort_string b' 0 cap l w (fun j hj=>?_) hD hl).mono ?_
  ·have WS:j<l.length:=by simpa using hj
   refine⟨?_,by simp[World.frozen?,eI]⟩
   rw[Nat.zero_add,jy eI,nS j WS]
   simp[WS]
  ·rintro e w' ⟨rfl,n,os,rfl⟩
   obtain⟨p1,p2,p3,p4,p5⟩:=Kp (n:=n) eI pW (nX l) (by omega) os
   have hH:=NB hB hh (wD:=act.put (some b) (.tuple #[])) (l:=nX l) (k:=k) p4 vl (fun q hq=>p1 q (by omega) (by obtain⟨M,e,_⟩:=hh;exact Nat.lt_of_lt_of_le hq e.size)) p2 p3 rfl rfl rfl (by omega) p5 (by rw[ND (Ne.symm hbk),hv k Cz,H2]) hn hd
   rw[H2]at hH
   exact⟨_,rfl,_,_,hH,h⟩
theorem PF (l:List aK):(Lib.compact l).length≤l.length:=by
 unfold Lib.compact Lib.compactUpTo
 rw[List.length_map]
 exact Nat.le_trans (List.length_filter_le _ _) (by simp)
theorem Sem.compact (hB:B.s = ⟨[],[]⟩) {a k b t:Nat} {l:List aK} {is:List AI} {Q:Exit→Tm→St→Prop} {tm:Tm} {s:St} (hbt:b<nt)
 (hk:tm.get k = .slice (.tok t) 1 (l.map encStr)) (ht:s.az[t]? = some (some l.length)) (hl:l.length<4611686018427387904)
 (h:jT Tryz.prog is (Q .normal) [(b, .slice (.tok 0) 1 ((Lib.compact l).map encStr))] ⟨[],[some (Lib.compact l).length]⟩) :
 Sem Tryz.prog B nt (.run (.op (some a) none (.mv (.s k)):: .call (some b) none kZ [.s a]::is)) Q tm s:=by
 refine Sem.aiq fun act w hh=>?_
 have NF:(tm.put (some a) (tm.get k)).get a = .slice (.tok t) 1 (l.map encStr):=by rw[Tm.mU,if_pos rfl];exact hk
 have dL:(act.tmps).size=nt:=by obtain⟨_,_,_,_,h1,_⟩:=hh;exact h1
 have hn : ∀ v,(act.put (some b) v).tmps.size=nt:=fun v=>by simpa[Act.put]using dL
 have hd : ∀ v,(act.put (some b) v).defers = []:=by obtain⟨_,_,_,_,_,h1⟩:=hh;intro v;simpa[Act.put]using h1
 rcases Ko hB hh ht NF with ⟨rfl,hv⟩|⟨b',cap,vs,T,hv,wc,eI,pW,vl,nS⟩
 ·rw [show Lib.compact ([] : List aK) = []from rfl]at h
  have call : ∀ p,act.tmps.getD a Go.undef = .slice p 0 0→(p=none∨∃ b q,p=some ⟨b,q,none⟩)→Calls Tryz.prog kZ #[act.tmps.getD a Go.undef] w fun e w'=>∃ v,e = .returned v∧∃ bE s',Holds B nt bE s' (act.put (some b) v) w'∧jT Tryz.prog is (Q .normal) bE s':=by
   intro p hp hq
   rw[hp]
   refine(Tryz.slices_Compact_string_empty p 0 w).mono ?_
   rintro e w' ⟨rfl,rfl⟩
   refine⟨_,rfl,_,_,Qv hB hh (k:=b) ?_ (hn _) (hd _),h⟩
   rw[Kq (by omega)]
   rcases hq with rfl|⟨x,y,rfl⟩
   ·exact .inl rfl
   ·exact .inr ⟨x,y,rfl⟩
  rcases hv a NF with h1|⟨b',q,h1⟩
  ·exact call _ h1 (.inl rfl)
  ·exact call _ h1 (.inr ⟨b',q,rfl⟩)
 ·rw [hv a NF]
  have nB:(Lib.compact l).length≤l.length:=PF l
  refine(Tryz.slices_Compact_string b' 0 cap l w (fun j hj=>?_) (by omega) wc).mono ?_
  ·have WS:j<l.length:=by simpa using hj
   refine⟨?_,by simp[World.frozen?,eI]⟩
   rw[Nat.zero_add,jy eI,nS j WS]
   simp[WS]
  ·rintro e w' ⟨rfl,q,rfl⟩
   obtain⟨p1,p2,p3,p4,p5⟩:=Kp (n:=q) eI pW (Lib.compact l++List.replicate (l.length - (Lib.compact l).length) []) (by simp;omega) #[]
   rw[Sort.grow_empty]at p1 p2 p3
   have hH:=NB hB hh (wD:=act.put (some b) (.slice (some ⟨b',0,none⟩) (Lib.compact l).length cap)) (l:=Lib.compact l) (k:=b) p4 vl (fun q hq=>p1 q (by omega) (by obtain⟨M,e,_⟩:=hh;exact Nat.lt_of_lt_of_le hq e.size)) p2 p3 rfl rfl rfl (by omega)
    (fun j hj=>by
     have:=p5 j (by simp;omega)
     rw[List.getElem_append_left hj]at this
     exact this) (Kq (by omega)) (hn _) (hd _)
   exact⟨_,rfl,_,_,hH,h⟩
end
end Go.Abs
namespace Go.Abs
theorem H3 {a b:UInt8} : a<b↔a.toNat<b.toNat:=UInt8.lt_iff_toNat_lt
theorem Bh : ∀ a:aK,bytesLess a a=false
 | []=>rfl
 |x::a=>by
  show Go.Op.bytesLess (x::a) (x::a)=false
  have h:=Bh a
  have h:Go.Op.bytesLess a a=false:=h
  simp[Go.Op.bytesLess,h]
theorem Bi : ∀ a b:aK,bytesLess a b=true∨a=b∨bytesLess b a=true
 | [],[]=> .inr (.inl rfl)
 | [],y::b=> .inl rfl
 |x::a,[]=> .inr (.inr rfl)
 | x::a,y::b=>by
  show Go.Op.bytesLess (x::a) (y::b)=true∨_∨Go.Op.bytesLess (y::b) (x::a)=true
  have h:Go.Op.bytesLess a b=true∨a=b∨Go.Op.bytesLess b a=true:=Bi a b
  simp only[Go.Op.bytesLess,Bool.or_eq_true,Bool.and_eq_true,decide_eq_true_eq,beq_iff_eq,List.cons.injEq]
  by_cases e:x=y
  ·subst e
   rcases h with h|h|h
   ·exact .inl (.inr ⟨rfl,h⟩)
   ·exact .inr (.inl ⟨rfl,h⟩)
   ·exact .inr (.inr (.inr ⟨rfl,h⟩))
  ·have:x.toNat≠y.toNat:=fun h=>e (UInt8.toNat_inj.1 h)
   rcases Nat.lt_or_gt_of_ne this with h|h
   ·exact .inl (.inl (H3.2 h))
   ·exact .inr (.inr (.inl (H3.2 h)))
theorem H4 : ∀ a b c:aK,bytesLess a b=true→bytesLess b c=true→bytesLess a c=true
 |a,b,[],h1,h2=>by cases b<;>cases h2
 |a,[],z::c,h1,h2=>by cases a<;>cases h1
 | [],y::b,z::c,h1,h2=>rfl
 | x::a,y::b,z::c,h1,h2=>by
  have h1:Go.Op.bytesLess (x::a) (y::b)=true:=h1
  have h2:Go.Op.bytesLess (y::b) (z::c)=true:=h2
  show Go.Op.bytesLess (x::a) (z::c)=true
  simp only[Go.Op.bytesLess,Bool.or_eq_true,Bool.and_eq_true,decide_eq_true_eq,beq_iff_eq]at h1 h2 ⊢
  rcases h1 with e1|⟨i1,e1⟩
  ·rcases h2 with e2 | ⟨i2,e2⟩
   ·exact .inl (H3.2 (Nat.lt_trans (H3.1 e1) (H3.1 e2)))
   ·exact .inl (i2 ▸ e1)
  ·rcases h2 with e2 | ⟨i2,e2⟩
   ·exact .inl (i1 ▸ e2)
   ·exact .inr ⟨i1.trans i2,H4 a b c e1 e2⟩
def D8 (l:List aK):Prop:=l.Pairwise fun a b=>bytesLess a b=true
theorem Ag : ∀ {a b:List aK},D8 a→D8 b→(∀ x,x∈a↔x∈b)→a=b
 | [],[],_,_,_=>rfl
 | [],y::b,_,_,h=>absurd ((h y).2 List.mem_cons_self) (by simp)
 |x::a,[],_,_,h=>absurd ((h x).1 List.mem_cons_self) (by simp)
 | x::a,y::b,h1,h2,h=>by
  obtain⟨g1,g2⟩:=List.pairwise_cons.1 h1
  obtain⟨g3,g4⟩:=List.pairwise_cons.1 h2
  have e:x=y:=by
   rcases List.mem_cons.1 ((h x).1 List.mem_cons_self)with e|m
   ·exact e
   ·rcases List.mem_cons.1 ((h y).2 List.mem_cons_self)with e | m'
    ·exact e.symm
    ·have:=H4 _ _ _ (g3 x m) (g1 y m');rw[Bh]at this;cases this
  subst e
  rw[Ag g2 g4 fun z=>?_]
  constructor
  ·intro m
   rcases List.mem_cons.1 ((h z).1 (List.mem_cons_of_mem _ m))with e|m'
   ·subst e;have:=g1 z m;rw[Bh]at this;cases this
   ·exact m'
  ·intro m
   rcases List.mem_cons.1 ((h z).2 (List.mem_cons_of_mem _ m))with e|m'
   ·subst e;have:=g3 z m;rw[Bh]at this;cases this
   ·exact m'
theorem w9 (out:List aK) : ∀ (l:List aK) (c:aK) (a:Bool),
 let q:=oX out l c a
 (q.2=false↔a=false∧∀ x∈l,x∈out)∧(q.2=true→((a=true∧q.1=c)∨(q.1∈l∧q.1∉out))∧(a=true→bytesLess c q.1=false)∧∀ x∈l,x∉out→bytesLess x q.1=false)
 | [],c,a=>by
  simp only[oX]
  refine⟨by simp,fun h=>⟨.inl ⟨h,by trivial⟩,fun _=>Bh c,fun x m=>(by cases m)⟩⟩
 | s::l,c,a=>by
  simp only[oX]
  by_cases h1:fH out s=true
  ·have m:=(fx _ _).1 h1
   simp only[h1,Bool.not_true,Bool.false_and,Bool.false_eq_true,if_false]
   obtain⟨k1,k2⟩:=w9 out l c a
   refine⟨k1.trans ⟨fun h=>⟨h.1,fun x hx=>?_⟩,fun h=>⟨h.1,fun x hx=>h.2 x (List.mem_cons_of_mem _ hx)⟩⟩,fun h=>?_⟩
   ·rcases List.mem_cons.1 hx with rfl | hx
    ·exact m
    ·exact h.2 x hx
   ·obtain⟨g1,g2,g3⟩:=k2 h
    refine⟨g1.imp_right fun h=>⟨List.mem_cons_of_mem _ h.1,h.2⟩,g2,fun x hx hn=>?_⟩
    rcases List.mem_cons.1 hx with rfl|hx
    ·exact absurd m hn
    ·exact g3 x hx hn
  ·have m:s∉out:=fun m=>h1 ((fx _ _).2 m)
   have uy:fH out s=false:=by simpa using h1
   by_cases h2:(!a ||bytesLess s c)=true
   ·simp only [uy,h2,Bool.not_false,Bool.and_self,if_true]
    obtain⟨k1,k2⟩:=w9 out l s true
    refine⟨⟨fun h=>absurd (k1.1 h).1 (by simp),fun h=>absurd (h.2 s List.mem_cons_self) m⟩,fun h=>?_⟩
    obtain⟨g1,g2,g3⟩:=k2 h
    have g4:=g2 rfl
    refine⟨.inr ?_,fun ha=>?_,fun x hx hn=>?_⟩
    ·rcases g1 with ⟨_,e⟩ | g1
     ·rw[e];exact⟨List.mem_cons_self,m⟩
     ·exact⟨List.mem_cons_of_mem _ g1.1,g1.2⟩
    ·have h3:bytesLess s c=true:=by simpa [ha]using h2
     cases hh:bytesLess c (oX out l s true).1
     ·rfl
     ·have:=H4 _ _ _ h3 hh;rw[g4]at this;cases this
    ·rcases List.mem_cons.1 hx with rfl | hx
     ·exact g4
     ·exact g3 x hx hn
   ·have wK:(!a || bytesLess s c)=false:=by simpa using h2
    have ha:a=true:=by cases a<;>simp_all
    have h3:bytesLess s c=false:=by cases a<;>simp_all
    simp only[uy,wK,Bool.not_false,Bool.and_false,Bool.false_eq_true,if_false]
    obtain⟨k1,k2⟩:=w9 out l c a
    refine⟨⟨fun h=>absurd (k1.1 h).1 (by simp[ha]),fun h=>absurd h.1 (by simp[ha])⟩,fun h=>?_⟩
    obtain⟨g1,g2,g3⟩:=k2 h
    refine⟨g1.imp_right fun h=>⟨List.mem_cons_of_mem _ h.1,h.2⟩,g2,fun x hx hn=>?_⟩
    rcases List.mem_cons.1 hx with rfl|hx
    ·cases hh:bytesLess x (oX out l c a).1
     ·rfl
     ·have g4:=g2 ha
      rcases Bi x c with e|e|e
      ·rw[h3]at e;cases e
      ·subst e;rw[g4]at hh;cases hh
      ·have:=H4 _ _ _ e hh;rw[g4]at this;cases this
    ·exact g3 x hx hn
theorem Ah (l:List aK) : ∀ (n:Nat) (out:List aK),D8 out→(∀ x∈out,x∈l)→(∀ x∈out,∀ y∈l,y∉out→bytesLess x y=true)→
 D8 (rl l n out)∧(∀ x∈rl l n out,x∈l)∧(∀ x∈out,x∈rl l n out)∧((∀ x∈l,x∈rl l n out)∨(rl l n out).length=out.length+n)
 | 0,out,h1,h2,h3=>⟨h1,h2,fun x m=>m, .inr rfl⟩
 | n+1,out,h1,h2,h3=>by
  simp only[rl,WQ]
  obtain⟨k1,k2⟩:=w9 out l [] false
  cases hq:(oX out l [] false).2
  ·simp only [Bool.false_eq_true,if_false]
   obtain⟨g1,g2,g3,g4⟩:=Ah l n out h1 h2 h3
   exact⟨g1,g2,g3, .inl fun x m=>g3 x ((k1.1 hq).2 x m)⟩
  ·simp only [if_true]
   obtain⟨g1,_,g3⟩:=k2 hq
   have g1:(oX out l [] false).1∈l∧(oX out l [] false).1∉out:=by
    rcases g1 with ⟨h,_⟩|g1
    ·cases h
    ·exact g1
   generalize (oX out l [] false).1=c at g1 g3
   obtain⟨r1,r2,r3,r4⟩:=Ah l n (out++ [c])
    (by
     refine List.pairwise_append.2 ⟨h1,by simp,fun x hx y hy=>?_⟩
     have:y=c:=by simpa using hy
     subst this
     exact h3 x hx y g1.1 g1.2)
    (fun x hx=>by
     rcases List.mem_append.1 hx with hx|hx
     ·exact h2 x hx
     ·have:x=c:=by simpa using hx
      subst this;exact g1.1)
    (fun x hx y hy hn=>by
     have hyo:y∉out:=fun m=>hn (List.mem_append_left _ m)
     have hyc:y≠c:=fun e=>hn (List.mem_append_right _ (by simp[e]))
     rcases List.mem_append.1 hx with hx|hx
     ·exact h3 x hx y hy hyo
     ·have:x=c:=by simpa using hx
      subst this
      rcases Bi x y with h|h|h
      ·exact h
      ·exact absurd h.symm hyc
      ·rw[g3 y hy hyo]at h;cases h)
   refine⟨r1,r2,fun x m=>r3 x (List.mem_append_left _ m),r4.imp_right fun h=>?_⟩
   rw[h];simp;omega
theorem zn : ∀ (a l:List aK),a.Nodup→(∀ x∈a,x∈l)→a.length≤l.length
 | [],l,_,_=>Nat.zero_le _
 |x::a,l,h,hm=>by
  obtain⟨h1,h2⟩:=List.nodup_cons.1 h
  have m:=hm x List.mem_cons_self
  have:=zn a (l.erase x) h2 fun y hy=>(List.mem_erase_of_ne (fun e=>h1 (by rw[← e];exact hy))).2 (hm y (List.mem_cons_of_mem _ hy))
  rw[List.length_erase_of_mem m]at this
  have:0<l.length:=List.length_pos_of_mem m
  simp only[List.length_cons];omega
theorem xa {l:List aK} (h:D8 l):l.Nodup:=h.imp fun {a b} h e=>by subst e;rw[Bh]at h;cases h
theorem lM (l:List aK):D8 (lB l)∧∀ x,x∈lB l↔x∈l:=by
 obtain⟨h1,h2,h3,h4⟩:=Ah l l.length [] List.Pairwise.nil (fun x m=>(by cases m)) (fun x m=>(by cases m))
 refine⟨h1,fun x=>⟨h2 x,fun m=>?_⟩⟩
 rcases h4 with h4|h4
 ·exact h4 x m
 ·refine Classical.byContradiction fun hn=> ?_
  have:=zn (x::rl l l.length []) l (List.nodup_cons.2 ⟨hn,xa h1⟩) fun y hy=>by
   rcases List.mem_cons.1 hy with rfl|hy
   ·exact m
   ·exact h2 y hy
  simp only[List.length_cons,h4,List.length_nil]at this
  omega
theorem PG (zs:List aK) (hs:zs.Pairwise fun a b=>bytesLess b a=false) : ∀ m,m≤zs.length→
 D8 (Lib.compactUpTo zs.toArray m)∧(∀ x,x∈Lib.compactUpTo zs.toArray m↔x∈zs.take m):=by
 intro m
 induction m with
 |zero=>intro _;exact⟨by simp[Lib.compactUpTo,D8],fun x=>by simp[Lib.compactUpTo]⟩
 | succ m ih=>
  intro hm
  obtain⟨h1,h2⟩:=ih (by omega)
  have hz:zs[m]? = some zs[m]:=List.getElem?_eq_getElem (by omega)
  have e1:zs.toArray[m]! = zs[m]:=by simp[hm,Nat.lt_of_succ_le hm]
  have et:zs.take (m+1)=zs.take m++ [zs[m]]:=by rw[List.take_add_one,hz];rfl
  rw[Lib.compactUpTo_succ,e1,et]
  by_cases hk:Lib.keeps zs.toArray m=true
  ·rw [if_pos hk]
   refine⟨List.pairwise_append.2 ⟨h1,by simp,fun x hx y hy=>?_⟩,fun x=>by rw[List.mem_append,List.mem_append,h2]⟩
   have hy:y=zs[m]:=by simpa using hy
   subst hy
   have hx:=(h2 x).1 hx
   simp only[Lib.keeps,decide_eq_true_eq]at hk
   rcases hk with rfl|hk
   ·simp at hx
   ·have qT:m - 1<zs.length:=by omega
    have e2:zs.toArray[m - 1]! = zs[m - 1]:=by simp[qT]
    rw[e1,e2]at hk
    have h0:0<m:=by
     cases m with
     |zero=>simp at hx
     |succ m=>omega
    have hle : ∀ i j (hi:i<zs.length) (hj:j<zs.length),i<j→bytesLess zs[j] zs[i] = false:=fun i j hi hj Vc=>List.pairwise_iff_getElem.1 hs i j hi hj Vc
    have g1:bytesLess zs[m] zs[m - 1] = false:=hle (m - 1) m qT (by omega) (by omega)
    have g2:bytesLess zs[m - 1] zs[m] = true:=by
     rcases Bi zs[m - 1] zs[m]with h|h|h
     ·exact h
     ·exact absurd h.symm hk
     ·rw[g1]at h;cases h
    obtain⟨i,hi,rfl⟩:=List.mem_iff_getElem.1 hx
    rw[List.length_take]at hi
    rw[List.getElem_take]
    by_cases px:i=m - 1
    ·subst px;exact g2
    ·have g3:=hle i (m - 1) (by omega) qT (by omega)
     rcases Bi zs[i] zs[m - 1]with h|h|h
     ·exact H4 _ _ _ h g2
     ·rw[h];exact g2
     ·rw[g3]at h;cases h
  ·rw [if_neg hk]
   simp only[List.append_nil]
   refine⟨h1,fun x=>?_⟩
   rw[h2]
   simp only[Lib.keeps,decide_eq_true_eq,not_or,ne_eq,Decidable.not_not]at hk
   obtain⟨k1,k2⟩:=hk
   have qT:m - 1<zs.length:=by omega
   have e2:zs.toArray[m - 1]! = zs[m - 1]:=by simp[qT]
   rw[e1,e2]at k2
   simp only[List.mem_append,List.mem_singleton]
   constructor
   ·exact .inl
   ·rintro(h | rfl)
    ·exact h
    ·rw [k2]
     exact List.mem_iff_getElem.2 ⟨m - 1,by rw[List.length_take];omega,by rw[List.getElem_take]⟩
theorem Kr (l:List aK):(nX l).Pairwise fun a b=>bytesLess b a=false:=by
 have h:=List.pairwise_mergeSort (le:=fun x y:aK=>decide (x≤y)) (fun a b c h1 h2=>?_) (fun a b=>?_) l
 ·refine h.imp fun {a b} h=> ?_
  rw[decide_eq_true_eq]at h
  show Go.Op.bytesLess b a=false
  rw[Go.Proofs.bytesLess_eq]
  simpa using h
 ·rw [decide_eq_true_eq]at h1 h2 ⊢
  exact List.le_trans h1 h2
 ·have:=List.le_total a b
  simpa using this
theorem D9 (l:List aK):Lib.compact (nX l)=lB l:=by
 obtain⟨h1,h2⟩:=PG (nX l) (Kr l) (nX l).length (Nat.le_refl _)
 obtain⟨h3,h4⟩:=lM l
 refine Ag h1 h3 fun x=>?_
 rw[h4]
 refine(h2 x).trans ?_
 rw[List.take_length]
 exact(List.mergeSort_perm _ _).mem_iff
set_option maxRecDepth 8000
open Go.Proofs
def nL:List Sm→List aK
 | []=> []
 |v::l=>if v.kind==4 then v.proc::nL l else nL l
theorem FF : ∀ l:List Sm,(nL l).length≤l.length
 | []=>Nat.le_refl _
 |v::l=>by
  simp only[nL]
  have:=FF l
  split<;>simp<;>omega
def Pc.calls (f:Pc):List aK:=lB (nL (Sm.bH f.body))
theorem Ea {name:aK} : ∀ {l:List Pc} {k:Nat} {f:Pc},iE name l=some f→∃ j,l[j]? = some f∧mC (fun f:Pc=>f.name==name) (k:Int) l=((k+j:Nat):Int)
 | g::l,k,f,h=>by
  simp only[iE]at h
  cases e:(g.name==name)
  ·rw [e]at h
   simp only[Bool.false_eq_true,if_false]at h
   obtain⟨j,h1,h2⟩:=Ea (k:=k+1) h
   refine⟨j+1,by simpa using h1, ?_⟩
   simp only[mC,e,Bool.false_eq_true,if_false]
   rw[show((k:Int)+1)=((k+1:Nat):Int)from rfl,h2]
   congr 1;omega
  ·rw [e]at h
   simp only[if_true,Option.some.injEq]at h
   exact⟨0,by simpa using h,by simp[mC,e]⟩
theorem aeM {p:Pg} (h:p.jE) {name:aK} {f:Pc} (hf:p.find name=some f) (s:St):aH Tryz.prog wy [.dN (gp p) 0, .str name] s (.slice .shared 1 (f.calls.map encStr)) s:=by
 refine aH.pure ?_ (by simp[D.bF,D.ok,wC]) (by simp only[D.ok,Tag.ok,fK];rfl) s
 obtain⟨td,p8,sT⟩:=h.procs
 obtain⟨j,hj,tj⟩:=Ea (k:=0) hf
 have tj:p.at name=((j:Nat):Int):=by unfold Pg.at;simpa using tj
 have zk:=fun s=>HN (p:=p) (by omega) name s
 rw[tj]at zk
 obtain⟨it,sV,zm⟩:=ZW hj (by omega)
 have aim:it.length≤900000:=by
  have e:=congrArg List.length sV
  obtain⟨a,b,e',_,_,e3,e4⟩:=(kW p).2 j f hj
  have e5:=qR p
  have e6:=congrArg List.length e3
  rw[e4]at e5
  simp only[List.length_map,List.length_append]at e e5 e6
  omega
 unfold S0
 obtain⟨fn,CW,FE⟩:=HG
 refine aH.intro ⟨fn,CW,FE⟩ (Nat.le_of_ble_eq_true rfl) fun B hB=>?_
 generalize hQ:rH (⟨[],[]⟩:St).aj.length (⟨[],[]⟩:St).az.length _ _ (⟨[],[]⟩:St)=Q
 have⟨hD,gA,gB,gC⟩:=bP
 refine Sem.oM ?_
 repeat' (first
 |simp only[go_sem,hD,gA,gB,gC]
 |(with_reducible refine aF hQ ?_;exact aP))
 refine Sem.oM ?_
 repeat' (first
 |simp only[go_sem,hD,gA,gB,gC]
 |(with_reducible refine aF hQ ?_;exact aP))
 refine Sem.oM ?_
 repeat' (first
 |simp only[go_sem,hD,gA,gB,gC]
 |(with_reducible refine CU (zk _) ?_)
 |(with_reducible refine CU (zm _) ?_)
 |(with_reducible refine aF hQ ?_;exact aP))
 refine bo.qI 5 1 rfl ?_
 simp only[go_sem,hD,gA,gB,gC]
 obtain⟨R,hR⟩ : ∃ R,R=nL (Sm.bH f.body):=⟨_,rfl⟩
 have hRl:R.length≤900000:=by rw[hR, ← sV];have:=FF (it.map Im.s);rw[List.length_map]at this;omega
 refine fz 0 1 (bo.ind (ι:=List Im×Nat×List aK×Nat) (fun i=>it.drop i.2.1=i.1∧i.2.2.1++nL (i.1.map Im.s)=R∧i.2.2.2=i.2.2.1.length) (fun i=>i.1.length)
  (fun i=> [(5, .slice (.tok 0) 1 (i.2.2.1.map encStr)),(12, .slice .shared 17 (it.map dM)),(13, .int .i64 (it.length:Int)),(14, .int .i64 (i.2.1:Int))]) (fun i=>⟨[],[some i.2.2.2]⟩) ?_ (it,0,[],0) ⟨rfl,by rw[hR,sV];rfl,rfl⟩)
 rintro⟨rest,k,out,n⟩ ⟨h1,h2,h3⟩ IH
 dsimp only at h1 h2 h3
 subst h3
 have jB:out.length≤900000:=by have:=congrArg List.length h2;rw[List.length_append]at this;omega
 cases rest with
 | cons a rest=>
  obtain⟨gA,g2,hD,g4⟩:=drop_cons h1
  have cd:k<4611686018427387904:=by omega
  have gB:(out.length+1)*17≤bp:=by unfold bp;omega
  simp only[List.map_cons,nL]at h2
  rcases Bool.eq_false_or_eq_true (a.s.kind==4)with c1|c1
  ·simp only [c1,if_true]at h2
   repeat' (first
 |simp only[go_sem,hD,gA,gB,gC,c1]
 | (with_reducible refine aF hQ ?_;exact aP))
   refine eQ 0 1 ?_ ?_ (IH (rest,k+1,out++ [a.s.proc],out.length+1) ⟨g2,by rw[← h2];simp,by simp⟩ (Nat.lt_succ_self _))
   ·(simp only[go_sem,hD,gA,gB,gC,aM cd,List.map_append,List.map_cons,List.map_nil,encStr];try exact bQ)
   ·(simp only[go_sem,hD,gA,gB,gC,aM cd,List.map_append,List.map_cons,List.map_nil,encStr];try exact bQ)
  ·simp only [c1,Bool.false_eq_true,if_false]at h2
   repeat' (first
 |simp only[go_sem,hD,gA,gB,gC,c1]
 | (with_reducible refine aF hQ ?_;exact aP))
   refine eQ 0 1 ?_ ?_ (IH (rest,k+1,out,_) ⟨g2,h2,rfl⟩ (Nat.lt_succ_self _))
   ·(simp only[go_sem,hD,gA,gB,gC,aM cd];try exact bQ)
   ·(simp only[go_sem,hD,gA,gB,gC,aM cd];try exact bQ)
 |nil=>
  have hD:=drop_nil h1
  simp only[List.map_nil,nL,List.append_nil]at h2
  subst h2
  have H2:(nX out).length=out.length:=List.length_mergeSort out
  repeat' (first
 |simp only[go_sem,hD,gA,gB,gC]
 |(with_reducible refine aF hQ ?_;exact aP))
  refine Sem.seq (Sem.sort (k:=5) (t:=0) (l:=out) hB (by decide) (by decide) (by decide) rfl rfl (by omega) ?_)
  show Sem _ _ _ _ _ _ _
  refine Sem.seq (Sem.compact (k:=5) (t:=0) (l:=nX out) hB (by decide) rfl (by rw[H2];rfl) (by rw[H2];omega) ?_)
  rw[D9]
  have auE:f.calls=lB out:=by unfold Pc.calls;rw[hR]
  rw[auE]at hQ
  refine jC (ac:= .ret) (Q:=Q) (tm:= [(32, .slice (.tok 0) 1 ((lB out).map encStr)),(4, .slice (.tok 0) 1 ((lB out).map encStr))]) (s:=⟨[],[some (lB out).length]⟩) ?_
  repeat' (first
 |simp only[go_sem,hD,gA,gB,gC]
 |(with_reducible refine aF hQ ?_;exact aP))
theorem Ks {name:aK} : ∀ {l:List Pc},name∈l.map (·.name)→∃ f,iE name l=some f
 | f::l,h=>by
  simp only[iE]
  cases e:(f.name==name)
  ·simp only [Bool.false_eq_true,if_false]
   refine Ks ?_
   rcases List.mem_cons.1 h with h|h
   ·rw[h]at e;simp at e
   ·exact h
  ·exact⟨f,rfl⟩
theorem Kt {p:Pg} {f:Pc} {procs:List aK} : ∀ {l:List Sm},Ae p f procs l=none→∀ v∈l,v.known p f procs=true
 | v::l,h,w,m=>by
  simp only[Ae]at h
  split at h
  ·rename_i e
   rcases List.mem_cons.1 m with rfl|m
   ·exact e
   ·exact Kt h w m
  ·cases h
theorem Ku {p:Pg} {procs:List aK} : ∀ {l:List Pc},((tU p procs l).1==0)=true→∀ f∈l,ff (p.globals++f.own)=false∧∀ v∈Sm.bH f.body,v.known p f procs=true
 | g::l,h,f,m=>by
  simp only[tU]at h
  split at h
  ·cases h
  ·rename_i e
   split at h
   ·cases h
   ·rename_i e2
    rcases List.mem_cons.1 m with rfl|m
    ·exact⟨by simpa using e,Kt e2⟩
    ·exact Ku h f m
theorem Gp {p:Pg} (h:(p.scope.1==0)=true):ff p.globals=false∧ff p.pn=false∧p.oW=false∧∀ f∈p.procs,ff (p.globals++f.own)=false∧∀ v∈Sm.bH f.body,v.known p f p.pn=true:=by
 unfold Pg.scope at h
 split at h
 ·split at h
  ·cases h
  ·rename_i e
   simp only[Bool.or_eq_true,not_or,Bool.not_eq_true]at e
   exact⟨e.1,e.2.1,e.2.2,Ku h⟩
 ·cases h
theorem Ai {x:aK} : ∀ {l:List Sm},x∈nL l↔∃ v∈l,v.kind=4∧v.proc=x
 | []=>by simp[nL]
 | v::l=>by
  simp only[nL]
  cases e:(v.kind==4)
  ·have:v.kind≠4:=by simpa using e
   simp[this,Ai (l:=l)]
  ·have:v.kind=4:=by simpa using e
   simp only[if_true,List.mem_cons,Ai (l:=l),exists_eq_or_imp,this,true_and]
   constructor
   ·rintro(h | h)
    ·exact .inl h.symm
    ·exact .inr h
   ·rintro(h | h)
    ·exact .inl h.symm
    ·exact .inr h
theorem Eb {f:Pc} {x:aK} : x∈f.calls↔∃ v∈Sm.bH f.body,v.kind=4∧v.proc=x:=by
 unfold Pc.calls;rw[(lM _).2,Ai]
theorem Aj {p:Pg} (h:(p.scope.1==0)=true) {f:Pc} (hf:f∈p.procs) {x:aK} (m:x∈f.calls) : ∃ g,p.find x=some g:=by
 obtain⟨v,hv,h4,rfl⟩:=Eb.1 m
 have hk:=((Gp h).2.2.2 f hf).2 v hv
 simp only[Sm.known,h4,Bool.and_eq_true,Bool.or_eq_true]at hk
 rcases hk.2 with h|⟨_,h⟩
 ·simp at h
 ·exact Ks ((fx _ _).1 h)
def p9 (p:Pg) (x:aK):List aK:=match p.find x with|some f=>f.calls|none=> []
def uT (out:List aK):List aK→List aK
 | []=>out
 |x::l=>uT (vr out x) l
def ox (p:Pg):Nat→Nat→List aK→List aK
 | 0,_,out=>out
 |n+1,i,out=>match out[i]? with
  |some x=>ox p n (i+1) (uT out (p9 p x))
  |none=>out
def Pg.work (p:Pg) (name:aK):List aK:=ox p (p.procs.length+1) 0 [name]
def Good (p:Pg) (out:List aK):Prop:=out.Nodup∧∀ x∈out,∃ f,p.find x=some f
theorem Good.len {p:Pg} {out:List aK} (h:Good p out):out.length≤p.procs.length:=by
 have:=zn out p.pn h.1 fun x m=>by
  obtain⟨f,hf⟩:=h.2 x m
  obtain⟨h1,h2⟩:=sF hf
  rw[← h2];exact List.mem_map_of_mem h1
 simpa[Pg.pn]using this
theorem Good.spk {p:Pg} {out:List aK} (h:Good p out) {x:aK} (hx : ∃ f,p.find x=some f):Good p (vr out x):=by
 unfold vr
 split
 ·exact h
 ·rename_i e
  have:x∉out:=fun m=>e ((fx _ _).2 m)
  refine⟨List.nodup_append.2 ⟨h.1,by simp,fun a ha b hb e'=>?_⟩,fun y hy=>?_⟩
  ·have hbx:b=x:=by simpa using hb
   rw[e',hbx]at ha;exact this ha
  ·rcases List.mem_append.1 hy with hy | hy
   ·exact h.2 y hy
   ·have:y=x:=by simpa using hy
    subst this;exact hx
theorem Good.add {p:Pg} : ∀ {l out:List aK},Good p out→(∀ x∈l,∃ f,p.find x=some f)→Good p (uT out l)
 | [],out,h,_=>h
 |x::l,out,h,hx=>Good.add (l:=l) (out:=vr out x) (Good.spk h (hx x List.mem_cons_self)) fun y m=>hx y (List.mem_cons_of_mem _ m)
def tgB:Bool→Tag
 |true=> .tok 0
 |false=> .full
def tkB:Bool→Nat→List (Option Nat)
 |true,n=> [some n]
 |false,_=> []
def B1:AI→AI
 | .op d g (.dm z k n ps)=> .op d g (.xn z k n ps)
 |a=>a
section
variable {P:Program}
theorem PH {nt:Nat} {ops:Array Oper} {i:Nat} {o:Oper} {ai:AI} (hi:ops[i]? = some o) (hc:cI P nt ops o=some ai)
 {M:Map} {s:St} {w:World} {tm:Tm} {act:Act} (r:Rel M s w) (kX:Laid M s w) (ht:nP M s tm act.tmps) {K':Tm→St→Prop} (h:jT P [B1 ai] K' tm s)
 {K:Act→World→Prop} {Q:Exit→Act→World→Prop}
 (hK : ∀ d v s1 w1 M1,K' (tm.put ai.dst d) s1→Ext M s w M1 s1 w1→Rel M1 s1 w1→RD M1 s1 d v→K (act.put o.dst v) w1):wpOp P ops Q i K act w:=by
 by_cases hb : ∃ d g z k n ps,ai = .op d g (.dm z k n ps)
 ·obtain⟨d0,g0,z,k,n,ps,rfl⟩:=hb
  obtain⟨g,hg,_,hb⟩:=DH hc
  rw[vJ hb]at hK
  simp only[wpOp,hi]
  have skip:K' (tm.put o.dst (.tuple [])) s→K (act.put o.dst Go.undef) w:=fun hk=>hK _ _ _ _ _ hk (Ext.refl M s w) r .undef
  have hd:=vJ hb
  simp only[AI.dst]at hd
  subst hd
  have pX:G3 P o=some (.dm z k n ps)∧g0=g:=by
   unfold u7 at hb
   split at hb
   ·split at hb
    ·obtain⟨xs,_,h⟩:=map_some hb;cases h
    ·cases hb
   ·obtain⟨xs,_,h⟩:=map_some hb;cases h
   ·split at hb
    ·cases hb
    ·split at hb
     ·rename_i pX
      simp only[Option.some.injEq,AI.op.injEq,true_and]at hb
      obtain⟨h1,h2⟩:=hb
      split at h2
      ·cases h2
      ·cases h2;exact⟨pX,h1.symm⟩
     ·rename_i ao fu pX
      simp only[Option.some.injEq,AI.op.injEq,true_and]at hb
      obtain⟨h1,h2⟩:=hb
      subst h2
      exact⟨pX,h1.symm⟩
     ·cases hb
  obtain⟨pX,rfl⟩:=pX
  simp only[B1,jT]at h
  rcases ly hg ht h with ⟨hw,hA⟩|⟨hw,hB⟩
  ·simp only [hw,if_true]
   left
   split at hA
   ·rename_i d s' sN
    obtain⟨v,w',M',ew,r',hv,e'⟩:=By pX r ht sN
    unfold Oper.wp
    rcases ew with ew|⟨ew,rfl⟩
    ·rw [ew,Oper.upon_value]
     exact hK _ _ _ _ _ hA e' r' hv
    ·rw [ew,Oper.upon_skip]
     exact hK _ _ _ _ _ hA e' r' hv
   ·exact hA.elim
  ·simp only [hw]
   exact skip hB
 ·have hs:B1 ai=ai:=by
   unfold B1
   split
   ·rename_i d g z k n ps;exact absurd ⟨d,g,z,k,n,ps,rfl⟩ hb
   ·rfl
  rw[hs]at h
  exact zO hi hc r kX ht h hK
theorem aeN {a:AI} {r:List AI} {K:Tm→St→Prop} {tm:Tm} {s:St} (h:jT P (a::r) K tm s):jT P [a] (jT P r K) tm s:=by
 cases a<;>exact h
theorem Kv {B:ic} {nt:Nat} {ops:Array Oper} {Q:Exit→Tm→St→Prop} : ∀ (l:List Nat) (ol:List Oper) (is:List AI),l.map (ops[·]?)=ol.map some→s5 P nt ops ol=some is→
 ∀ (tm:Tm) (s:St) (act:Act) (w:World),jT P (is.map B1) (Q .normal) tm s→Holds B nt tm s act w→wpOps P ops (rG B nt Q) l act w
 | [],[],is,_,hc,tm,s,act,w,h,hh=>by cases hc;exact⟨tm,s,h,hh⟩
 | [],_::_,_,hl,_,_,_,_,_,_,_=>by simp at hl
 |_::_,[],_,hl,_,_,_,_,_,_,_=>by simp at hl
 | i::l,o::ol,is,hl,hc,tm,s,act,w,h,hh=>by
  simp only[List.map_cons,List.cons.injEq]at hl
  obtain⟨hi,hl⟩:=hl
  unfold s5 at hc
  split at hc
  ·rename_i ai Vg h1 h2
   cases hc
   obtain⟨M,e,r,ht,hn,hd⟩:=hh
   have sx:=AP h1
   have hdd:=vK h1
   rw[List.map_cons]at h
   have key:=PH (K:=fun act w=>wpOps P ops (rG B nt Q) l act w) (Q:=rG B nt Q) hi h1 r (B.laid.ext e) ht (aeN h) (fun d v s1 w1 M1 hk e1 r1 hv=>
    Kv (Q:=Q) l ol Vg hl h2 _ _ _ _ hk (hdd ▸ Holds.put e ht hn hd sx e1 r1 hv))
   simpa only[wpOps,wpOp,hi]using key
  ·cases hc
theorem Sem.swap {B:ic} {nt:Nat} {is:List AI} {Q:Exit→Tm→St→Prop} {tm:Tm} {s:St} (h:jU P B nt (.run (is.map B1)) Q tm s):Sem P B nt (.run is) Q tm s:=by
 intro c hc act w hh
 obtain⟨id,ops,rfl,hi⟩:=ng hc
 refine wp_region ?_
 exact Kv _ _ is (DF ops) hi tm s act w (qc h) hh
end
end Go.Abs
namespace Go.Abs
set_option maxRecDepth 8000
open Go.Proofs
theorem TT {l:List aK} (h:l.Nodup):nX l=lB l:=by
 refine Ag ?_ (lM l).1 fun x=>?_
 ·have h1:=Kr l
  have h2:(nX l).Nodup:=(List.mergeSort_perm l _).nodup_iff.2 h
  refine(List.pairwise_and_iff.2 ⟨h1,h2⟩).imp fun {a b} hab=>?_
  rcases Bi a b with e|e|e
  ·exact e
  ·exact absurd e hab.2
  ·rw[hab.1]at e;cases e
 ·rw[(lM l).2];exact(List.mergeSort_perm l _).mem_iff
theorem Ec {p:Pg} (nq:(p.scope.1==0)=true) : ∀ (n i:Nat) (out:List aK),Good p out→Good p (ox p n i out)
 | 0,i,out,h=>h
 | n+1,i,out,h=>by
  simp only[ox]
  split
  ·rename_i x hx
   obtain⟨g,hg⟩:=h.2 x (List.mem_of_getElem? hx)
   refine Ec nq n _ _ (h.add fun y m=>?_)
   unfold p9 at m
   rw[hg]at m
   exact Aj nq (sF hg).1 m
  ·exact h
theorem B2 {p:Pg} {name:aK} {f:Pc} (hf:p.find name=some f):Good p [name]:=
 ⟨by simp,fun x m=>by
  have:x=name:=by simpa using m
  subst this;exact⟨f,hf⟩⟩
theorem aeO {p:Pg} (h:p.jE) (nq:(p.scope.1==0)=true) {name:aK} {f:Pc} (hf:p.find name=some f) (s:St):aH Tryz.prog z8 [.dN (gp p) 0, .str name] s (.slice .shared 1 ((lB (p.work name)).map encStr)) s:=by
 refine aH.pure ?_ (by simp[D.bF,D.ok,wC]) (by simp only[D.ok,Tag.ok,fK];rfl) s
 obtain⟨td,p8,sT⟩:=h.procs
 obtain⟨R,hR⟩ : ∃ R,p.work name=R:=⟨_,rfl⟩
 have hgR:Good p R:=hR ▸ Ec nq _ _ _ (B2 hf)
 rw[hR, ← TT hgR.1]
 unfold Pg.work at hR
 have hg0:Good p [name]:=B2 hf
 have hRl:=hgR.len
 unfold S0
 obtain⟨fn,CW,FE⟩:=Lj
 refine aH.intro ⟨fn,CW,FE⟩ (Nat.le_of_ble_eq_true rfl) fun B hB=>?_
 generalize hQ:rH (⟨[],[]⟩:St).aj.length (⟨[],[]⟩:St).az.length _ _ (⟨[],[]⟩:St)=Q
 have⟨hD,gA,gB,gC⟩:=bP
 refine Sem.oM ?_
 repeat' (first
 |simp only[go_sem,hD,gA,gB,gC]
 |(with_reducible first|refine dU fun hc=>?_|refine dV fun hc=>?_|refine dW (fun hc=>?_) fun hc=>?_)<;>(try simp only[hc,bs,↓reduceIte]at h)<;>try simp only[hc]
 |(with_reducible refine aF hQ ?_;exact kC)
 |(cases h;done))
 refine Sem.seq (Sem.swap ?_)
 simp only[List.map_cons,List.map_nil,B1]
 repeat' (first
 |simp only[go_sem,hD,gA,gB,gC]
 |(with_reducible first|refine dU fun hc=>?_|refine dV fun hc=>?_|refine dW (fun hc=>?_) fun hc=>?_)<;>(try simp only[hc,bs,↓reduceIte]at h)<;>try simp only[hc]
 |(with_reducible refine aF hQ ?_;exact kC)
 |(cases h;done))
 refine Sem.oM ?_
 repeat' (first
 |simp only[go_sem,hD,gA,gB,gC]
 |(with_reducible first|refine dU fun hc=>?_|refine dV fun hc=>?_|refine dW (fun hc=>?_) fun hc=>?_)<;>(try simp only[hc,bs,↓reduceIte]at h)<;>try simp only[hc]
 |(with_reducible refine aF hQ ?_;exact kC)
 |(cases h;done))
 refine fz 0 1 (bo.ind (ι:=Nat×Nat×List aK×Nat) (fun i=>ox p i.1 i.2.1 i.2.2.1=R∧Good p i.2.2.1∧i.1+i.2.1=p.procs.length+1∧i.2.2.2=i.2.2.1.length) (fun i=>i.1)
  (fun i=> [(0, .dN (gp p) 0),(5, .slice (.tok 0) 1 (i.2.2.1.map encStr)),(6, .int .i64 (i.2.1:Int))]) (fun i=>⟨[],[some i.2.2.2]⟩) ?_ (p.procs.length+1,0,[name],1) ⟨hR,hg0,rfl,rfl⟩)
 rintro⟨n,i,out,no⟩ ⟨h1,h2,h3,h4⟩ IH
 dsimp only at h1 h2 h3 h4
 subst h4
 have jB:=h2.len
 cases hx:out[i]? with
 | none=>
  have hD:decide ((i:Int)<(out.length:Int))=false:=by have:=List.getElem?_eq_none_iff.1 hx;simp;omega
  have:R=out:=by
   cases n with
   |zero=>simpa[ox]using h1.symm
   |succ n=>simp only[ox,hx]at h1;exact h1.symm
  subst this
  repeat' (first
 |simp only[go_sem,hD,gA,gB,gC]
 |(with_reducible first|refine dU fun hc=>?_|refine dV fun hc=>?_|refine dW (fun hc=>?_) fun hc=>?_)<;>(try simp only[hc,bs,↓reduceIte]at h)<;>try simp only[hc]
 |(with_reducible refine aF hQ ?_;exact kC)
 |(cases h;done))
  refine Sem.seq (Sem.sort (k:=5) (t:=0) (l:=R) hB (by decide) (by decide) (by decide) rfl rfl (by omega) ?_)
  refine jC (ac:=ah2) (Q:=Q) (tm:= [(5, .slice (.tok 0) 1 ((nX R).map encStr))]) (s:=⟨[],[some R.length]⟩) ?_
  repeat' (first
 |simp only[go_sem,hD,gA,gB,gC]
 |(with_reducible first|refine dU fun hc=>?_|refine dV fun hc=>?_|refine dW (fun hc=>?_) fun hc=>?_)<;>(try simp only[hc,bs,↓reduceIte]at h)<;>try simp only[hc]
 |(with_reducible refine aF hQ ?_;exact kC)
 |(cases h;done))
 |some x=>
  have qH:=(List.getElem?_eq_some_iff.1 hx).1
  have hD:decide ((i:Int)<(out.length:Int))=true:=by simp;omega
  have px:i<4611686018427387904:=by omega
  cases n with
  |zero=>omega
  |succ n=>
  simp only[ox,hx]at h1
  obtain⟨g,H5⟩:=h2.2 x (List.mem_of_getElem? hx)
  have WT:=(sF H5).1
  have hca:=fun s=>aeM h H5 s
  have hcn:p9 p x=g.calls:=by unfold p9;rw[H5]
  rw[hcn]at h1
  have Ed : ∀ y∈g.calls,∃ f,p.find y=some f:=fun y m=>Aj nq WT m
  have aCG:g.calls.length≤p.procs.length:=Good.len ⟨xa (lM _).1,Ed⟩
  obtain⟨W,hW⟩ : ∃ W,uT out g.calls=W:=⟨_,rfl⟩
  rw[hW]at h1
  repeat' (first
 |simp only[go_sem,hD,gA,gB,gC,hx]
 |(with_reducible refine CU (hca _) ?_)
 |(with_reducible first|refine dU fun hc=>?_|refine dV fun hc=>?_|refine dW (fun hc=>?_) fun hc=>?_)<;>(try simp only[hc,bs,↓reduceIte]at h)<;>try simp only[hc]
 |(with_reducible refine aF hQ ?_;(try cases h);simp only[cZ,da,eK,eO,go_sem,hD,gA,gB,gC,hx];try exact iI)
 | (cases h;done))
  refine fz 0 1 (bo.ind (ι:=List aK×Nat×List aK×Nat) (fun j=>g.calls.drop j.2.1=j.1∧uT j.2.2.1 j.1=W∧Good p j.2.2.1∧j.2.2.2=j.2.2.1.length) (fun j=>j.1.length)
   (fun j=> [(0, .dN (gp p) 0),(5, .slice (.tok 0) 1 (j.2.2.1.map encStr)),(6, .int .i64 (i:Int)),(22, .slice .shared 1 (g.calls.map encStr)),(23, .int .i64 (g.calls.length:Int)),(24, .int .i64 (j.2.1:Int))]) (fun j=>⟨[],[some j.2.2.2]⟩) ?_ (g.calls,0,out,out.length) ⟨rfl,hW,h2,rfl⟩)
  clear hW
  rintro⟨rest,k,dc,n'⟩ ⟨j1,j2,j3,j4⟩ IH'
  dsimp only at j1 j2 j3 j4
  subst j4
  have aCH:=j3.len
  cases rest with
  |nil=>
   have aiv:=drop_nil j1
   simp only[uT]at j2
   subst j2
   repeat' (first
 |simp only[go_sem,hD,gA,gB,gC,aiv]
 |(with_reducible first|refine dU fun hc=>?_|refine dV fun hc=>?_|refine dW (fun hc=>?_) fun hc=>?_)<;>(try simp only[hc,bs,↓reduceIte]at h)<;>try simp only[hc]
 |(with_reducible refine aF hQ ?_;(try cases h);simp only[cZ,da,eK,eO,go_sem,hD,gA,gB,gC,aiv];try exact iI)
 | (cases h;done))
   refine eQ 0 1 ?_ ?_ (IH (n,i+1,dc,dc.length) ⟨h1,j3,by dsimp only;omega,rfl⟩ (Nat.lt_succ_self _))
   ·(simp only[go_sem,hD,gA,gB,gC,aM px];try exact bQ)
   ·(simp only[go_sem,hD,gA,gB,gC,aM px];try exact bQ)
  | cons y rest=>
   obtain⟨oh,Qr,vW,jg4⟩:=drop_cons j1
   have wR:k<4611686018427387904:=by omega
   have gB:(dc.length+1)*17≤bp:=by unfold bp;omega
   have Kw:=fun g s=>kL (l:=dc) (by omega) y g s
   have hy:=Ed y (List.mem_of_getElem? oh)
   have yS:=j3.spk hy
   simp only[uT]at j2
   rcases Bool.eq_false_or_eq_true (fH dc y)with c1|c1
   ·simp only [vr,c1,if_true]at j2
    repeat' (first
 |simp only[go_sem,hD,gA,gB,gC,vW,oh,c1]
 |(with_reducible refine CU (Kw _ _) ?_)
 |(with_reducible first|refine dU fun hc=>?_|refine dV fun hc=>?_|refine dW (fun hc=>?_) fun hc=>?_)<;>(try simp only[hc,bs,↓reduceIte]at h)<;>try simp only[hc]
 |(with_reducible refine aF hQ ?_;(try cases h);simp only[cZ,da,eK,eO,go_sem,hD,gA,gB,gC,vW,oh,c1];try exact iI)
 | (cases h;done))
    refine eQ 0 1 ?_ ?_ (IH' (rest,k+1,dc,dc.length) ⟨Qr,j2,j3,rfl⟩ (Nat.lt_succ_self _))
    ·(simp only[go_sem,hD,gA,gB,gC,aM wR];try exact bQ)
    ·(simp only[go_sem,hD,gA,gB,gC,aM wR];try exact bQ)
   ·simp only [vr,c1,Bool.false_eq_true,if_false]at j2 yS
    repeat' (first
 |simp only[go_sem,hD,gA,gB,gC,vW,oh,c1]
 |(with_reducible refine CU (Kw _ _) ?_)
 |(with_reducible first|refine dU fun hc=>?_|refine dV fun hc=>?_|refine dW (fun hc=>?_) fun hc=>?_)<;>(try simp only[hc,bs,↓reduceIte]at h)<;>try simp only[hc]
 |(with_reducible refine aF hQ ?_;(try cases h);simp only[cZ,da,eK,eO,go_sem,hD,gA,gB,gC,vW,oh,c1];try exact iI)
 | (cases h;done))
    refine eQ 0 1 ?_ ?_ (IH' (rest,k+1,dc++ [y],dc.length+1) ⟨Qr,j2,yS,by simp⟩ (Nat.lt_succ_self _))
    ·(simp only[go_sem,hD,gA,gB,gC,aM wR,List.map_append,List.map_cons,List.map_nil,encStr];try exact bQ)
    ·(simp only[go_sem,hD,gA,gB,gC,aM wR,List.map_append,List.map_cons,List.map_nil,encStr];try exact bQ)
theorem NG (name:aK) : ∀ l:List Pc,l.any (fun f=>f.name==name)=(iE name l).isSome
 | []=>rfl
 |f::l=>by
  simp only[List.any_cons,iE]
  cases e:(f.name==name)
  ·simp[NG name l]
  ·simp
theorem aal (name:aK) (f:Pc):aH Tryz.prog qt ([.agg (bJ f)]++ [.ptr 0 0]) ⟨[[.str name]],[]⟩ (.bool (f.name==name)) ⟨[[.str name]],[]⟩:=by
 show aH Tryz.prog qt [.agg (bJ f), .ptr 0 0] _ _ _
 refine aH.go Fh rfl fun B Q hB hQ=>?_
 have⟨hD,gA,gB,gC⟩:=bP
 repeat' (first
 |simp only[go_sem,hD,gA,gB,gC]
 |(with_reducible refine aF hQ ?_;exact aP))
def Pg.uU (p:Pg) (name:aK):Option Pc:=if p.scope.1==0 then p.find name else none
theorem aam {p:Pg} (h:p.jE) (name:aK) (s:St):aH Tryz.prog wx [.agg (bK p), .str name] s (.bool (p.uU name).isSome) s:=by
 refine aH.pure ?_ (by simp[D.bF,D.ok,iP]) rfl s
 obtain⟨td,p8,sT⟩:=h.procs
 have rp:=fun s=>x8 h s
 have hi:=fun {s:St} {o:Nat} (ho:s.aj[o]? = some [.str name])=>DY (C6 (l:=p.procs) (f:=qt) (row:= [.str name]) (b:=fun f:Pc=>f.name==name) (by omega) rfl (by with_unfolding_all rfl) (fun x _=>aal name x)) rfl (yU _) rfl ho
 have iH:=fun {s:St} {o:Nat} (ho:s.aj[o]? = some [.str name])=>(show aH Tryz.prog iZ [.slice .shared 5 (p.procs.map bJ), .ix 191 [.ptr o 0]] s (.bool (p.procs.any fun f:Pc=>f.name==name)) s from hi ho)
 simp only[NG]at iH
 unfold Pg.uU Pg.find
 unfold S0
 rcases Bool.eq_false_or_eq_true (p.scope.1==0)with b1|b1
 ·simp only [b1,if_true]
  refine aH.go yZ rfl fun B Q hB hQ=>?_
  have⟨hD,gA,gB,gC⟩:=bP
  repeat' (first
 |simp only[go_sem,hD,gA,gB,gC,b1]
 |(with_reducible refine CU (rp _) ?_)
 |(with_reducible refine CU (iH (by with_unfolding_all rfl)) ?_)
 |(with_reducible refine aF hQ ?_;exact aP))
 ·simp only [b1,Bool.false_eq_true,if_false,Option.isSome_none]
  refine aH.go yZ rfl fun B Q hB hQ=>?_
  have⟨hD,gA,gB,gC⟩:=bP
  repeat' (first
 |simp only[go_sem,hD,gA,gB,gC,b1]
 |(with_reducible refine CU (rp _) ?_)
 |(with_reducible refine CU (iH (by with_unfolding_all rfl)) ?_)
 |(with_reducible refine aF hQ ?_;exact aP))
def Pg.aBk (p:Pg) (name:aK):List aK:=match p.uU name with|some f=>f.calls|none=> []
def Pg.auF (p:Pg) (name:aK):List aK:=match p.uU name with|some _=>lB (p.work name)|none=> []
theorem Ee {p:Pg} {name:aK} {f:Pc} (h:p.uU name=some f):(p.scope.1==0)=true∧p.find name=some f:=by
 unfold Pg.uU at h
 split at h
 ·exact⟨by assumption,h⟩
 ·cases h
def rm (p:Pg) (out:List aK):List aK→List aK
 | []=>out
 |v::l=>rm p (if fH p.globals v then out++ [v]else out) l
def rn (p:Pg) (out:List aK):List Sm→List aK
 | []=>out
 |v::l=>rn p (rm p out v.said) l
def oY (p:Pg) (n:aK):List Sm:=match p.find n with|some f=>Sm.bH f.body|none=> []
def si (p:Pg) (out:List aK):List aK→List aK
 | []=>out
 |n::l=>si p (rn p out (oY p n)) l
theorem B3 (p:Pg) : ∀ (l out:List aK),out.length≤(rm p out l).length∧(rm p out l).length≤out.length+l.length
 | [],out=>⟨Nat.le_refl _,Nat.le_refl _⟩
 |v::l,out=>by
  simp only[rm]
  have h:=B3 p l (if fH p.globals v then out++ [v]else out)
  have h2:out.length≤(if fH p.globals v then out++ [v]else out).length∧(if fH p.globals v then out++ [v]else out).length≤out.length+1:=by split<;>simp
  simp only[List.length_cons]
  omega
def qu:List Sm→Nat
 | []=>0
 |v::l=>v.said.length+qu l
theorem Ef : ∀ a b:List Sm,qu (a++b)=qu a+qu b
 | [],b=>by simp[qu]
 |v::a,b=>by simp only[List.cons_append,qu,Ef a b];omega
theorem aeP (v:Sm):v.said.length≤1+v.x.size+2*Ar.aS v.args:=by
 have : ∀ (l:List Ar) (out:List aK),(Ar.said out l).length≤out.length+2*Ar.aS l:=by
  intro l
  induction l with
  |nil=>intro out;simp[Ar.said]
  |cons a l ih=>
   intro out
   simp only[Ar.said,Ar.aS]
   refine Nat.le_trans (ih _) ?_
   have:=mM a.x
   have:1≤a.x.size:=by obtain⟨_,_,_,_⟩:=a.x;simp[Ex.size]
   simp only[List.length_append]
   split<;>simp<;>omega
 have h1:=this v.args (v.vt++v.x.names)
 have h2:=mM v.x
 have h4:v.vt.length≤1:=by unfold Sm.vt;split<;>simp
 simp only[List.length_append]at h1
 unfold Sm.said
 omega
mutual
theorem WU : ∀ s:Sm,qu s.pre≤2*s.size
 |⟨id,kind,labels,name,proc,x,has,args,aO,aN⟩=>by
  simp only[Sm.pre,qu,Ef,Sm.size]
  have h1:=aeP ⟨id,kind,labels,name,proc,x,has,args,aO,aN⟩
  have h2:=xb aO
  have h3:=xb aN
  dsimp only at h1
  omega
theorem xb : ∀ l:List Sm,qu (Sm.bH l)≤2*Sm.aS l
 | []=>by simp[Sm.bH,qu,Sm.aS]
 |s::l=>by
  simp only[Sm.bH,Ef,Sm.aS]
  have:=WU s;have:=xb l;omega
end
theorem B4 (p:Pg) : ∀ (l:List Sm) (out:List aK),out.length≤(rn p out l).length∧(rn p out l).length≤out.length+qu l
 | [],out=>⟨Nat.le_refl _,Nat.le_refl _⟩
 |v::l,out=>by
  simp only[rn,qu]
  have h:=B4 p l (rm p out v.said)
  have h2:=B3 p v.said out
  omega
theorem B5 {p:Pg} (h:p.jE) : ∀ (l out:List aK),out.length≤(si p out l).length∧(si p out l).length≤out.length+l.length*1800000
 | [],out=>⟨Nat.le_refl _,by simp[si]⟩
 | n::l,out=>by
  simp only[si]
  have h1:=B5 h l (rn p out (oY p n))
  have h2:=B4 p (oY p n) out
  have h3:qu (oY p n)≤1800000:=by
   unfold oY
   split
   ·rename_i f hf
    have:=xb f.body
    have h4:=Pc.cu (sF hf).1
    have h5:=h.procs.2.1
    simp only[Pc.size]at h4
    omega
   ·simp[qu]
  simp only[List.length_cons]
  omega
theorem WV {p:Pg} (h:p.may=true):p.procs.length≤16:=by
 unfold Pg.may at h
 split at h
 ·cases h
 ·rename_i c
  simp only[Bool.or_eq_true,decide_eq_true_eq,not_or,Int.not_lt,gt_iff_lt]at c
  have:=c.1.2
  omega
def Pg.sG (p:Pg) (name:aK):List aK:=si p [] (lB (p.work name))
def Pg.nr (p:Pg) (name:aK):List aK:=match p.uU name with|some _=>lB (p.sG name)|none=> []
theorem NH {p:Pg} (nq:(p.scope.1==0)=true) {name:aK} {f:Pc} (hf:p.find name=some f):Good p (lB (p.work name)):=by
 have h:=Ec nq (p.procs.length+1) 0 [name] (B2 hf)
 refine⟨xa (lM _).1,fun x m=>h.2 x ?_⟩
 exact((lM _).2 x).1 m
theorem WW {p:Pg} (h:p.jE) (name:aK) (s:St):aH Tryz.prog tC [.agg (bK p), .str name] s (.slice .shared 1 ((p.nr name).map encStr)) s:=by
 refine aH.pure ?_ (by simp[D.bF,D.ok,iP]) (by simp only[D.ok,Tag.ok,fK];rfl) s
 have hk:=fun s=>aam h name s
 have dw:=fun s=>EP (p:=p) (by have:=h.procs;omega) s
 unfold Pg.nr
 unfold S0
 cases aan:p.uU name with
 |none=>
  simp only[aan,Option.isSome_none]at hk
  simp only[List.map_nil]
  refine aH.go wO rfl fun B Q hB hQ=>?_
  have⟨hD,gA,gB,gC⟩:=bP
  repeat' (first
 |simp only[go_sem,hD,gA,gB,gC]
 |(with_reducible refine CU (hk _) ?_)
 |(with_reducible refine aF hQ ?_;exact aP))
 |some f=>
 obtain⟨nq,hf⟩:=Ee aan
 simp only[aan,Option.isSome_some]at hk
 dsimp only
 obtain⟨td,p8,sT⟩:=h.procs
 have hN:=NH nq hf
 obtain⟨N,hNe⟩ : ∃ N,lB (p.work name)=N:=⟨_,rfl⟩
 rw[hNe]at hN
 have hNl:=hN.len
 obtain⟨R,hR⟩ : ∃ R,p.sG name=R:=⟨_,rfl⟩
 rw[hR]
 unfold Pg.sG at hR
 rw[hNe]at hR
 have hRl:R.length≤28800000:=by
  have:=(B5 h N []).2
  rw[hR]at this
  have h4:=WV (D6 nq)
  have h3:N.length*1800000≤16*1800000:=Nat.mul_le_mul_right _ (by omega)
  simp only[List.length_nil]at this
  omega
 have hca:=fun s=>aeO h nq hf s
 simp only[hNe]at hca
 obtain⟨fn,CW,FE⟩:=wO
 refine aH.intro ⟨fn,CW,FE⟩ (Nat.le_of_ble_eq_true rfl) fun B hB=>?_
 generalize hQ:rH (⟨[],[]⟩:St).aj.length (⟨[],[]⟩:St).az.length _ _ (⟨[],[]⟩:St)=Q
 have⟨hD,gA,gB,gC⟩:=bP
 refine Sem.oM ?_
 repeat' (first
 |simp only[go_sem,hD,gA,gB,gC]
 |(with_reducible refine aF hQ ?_;exact aP))
 refine Sem.oM ?_
 repeat' (first
 |simp only[go_sem,hD,gA,gB,gC]
 |(with_reducible refine CU (hk _) ?_)
 |(with_reducible refine aF hQ ?_;exact aP))
 refine Sem.oM ?_
 repeat' (first
 |simp only[go_sem,hD,gA,gB,gC]
 |(with_reducible refine CU (dw _) ?_)
 |(with_reducible refine aF hQ ?_;exact aP))
 refine Sem.oM ?_
 repeat' (first
 |simp only[go_sem,hD,gA,gB,gC]
 |(with_reducible refine aF hQ ?_;exact aP))
 refine Sem.oM ?_
 repeat' (first
 |simp only[go_sem,hD,gA,gB,gC]
 |(with_reducible refine CU (hca _) ?_)
 |(with_reducible refine aF hQ ?_;exact aP))
 refine bo.qI 6 1 rfl ?_
 simp only[go_sem,hD,gA,gB,gC]
 refine fz 1 1 (bo.ind (ι:=List aK×Nat×List aK×Nat) (fun i=>N.drop i.2.1=i.1∧si p i.2.2.1 i.1=R∧i.2.2.1.length≤R.length∧i.2.2.2=i.2.2.1.length) (fun i=>i.1.length)
  (fun i=> [(2, .ptr 0 0),(5, .dN (gp p) 0),(6, .slice (.tok 0) 1 (i.2.2.1.map encStr)),(21, .slice .shared 1 (N.map encStr)),(22, .int .i64 (N.length:Int)),(23, .int .i64 (i.2.1:Int))]) (fun i=>⟨[bK p],[some i.2.2.2]⟩) ?_ (N,0,[],0) ⟨rfl,hR,Nat.zero_le _,rfl⟩)
 rintro⟨rest,k,out,no⟩ ⟨h1,h2,h3,h4⟩ IH
 dsimp only at h1 h2 h3 h4
 subst h4
 cases rest with
 |nil=>
  have hD:=drop_nil h1
  simp only[si]at h2
  subst h2
  have H2:(nX out).length=out.length:=List.length_mergeSort out
  repeat' (first
 |simp only[go_sem,hD,gA,gB,gC]
 |(with_reducible refine aF hQ ?_;exact aP))
  refine Sem.seq (Sem.sort (k:=6) (t:=0) (l:=out) hB (by decide) (by decide) (by decide) rfl rfl (by omega) ?_)
  refine Sem.seq (Sem.compact (k:=6) (t:=0) (l:=nX out) hB (by decide) rfl (by rw[H2];rfl) (by rw[H2];omega) ?_)
  rw[D9]
  refine jC (ac:= .ret) (Q:=Q) (tm:= [(59, .slice (.tok 0) 1 ((lB out).map encStr)),(4, .slice (.tok 0) 1 ((lB out).map encStr))]) (s:=⟨[],[some (lB out).length]⟩) ?_
  repeat' (first
 |simp only[go_sem,hD,gA,gB,gC]
 |(with_reducible refine aF hQ ?_;exact aP))
 | cons x rest=>
  obtain⟨gA,g2,hD,g4⟩:=drop_cons h1
  have cd:k<4611686018427387904:=by omega
  obtain⟨g,H5⟩:=hN.2 x (List.mem_of_getElem? gA)
  have WT:=(sF H5).1
  have hbd:oY p x=Sm.bH g.body:=by unfold oY;rw[H5]
  simp only[si,hbd]at h2
  obtain⟨j,hj,tj⟩:=Ea (k:=0) H5
  have tj:p.at x=((j:Nat):Int):=by unfold Pg.at;simpa using tj
  have zk:=fun s=>HN (p:=p) (by omega) x s
  simp only[tj]at zk
  obtain⟨it,sV,zm⟩:=ZW hj (by omega)
  have aim:it.length≤900000:=by
   have e:=congrArg List.length sV
   obtain⟨a,b,e',_,_,e3,e4⟩:=(kW p).2 j g hj
   have e5:=qR p
   have e6:=congrArg List.length e3
   rw[e4]at e5
   simp only[List.length_map,List.length_append]at e e5 e6
   omega
  rw[← sV]at h2
  repeat' (first
 |simp only[go_sem,hD,gA,gB,gC,gA]
 |(with_reducible refine CU (zk _) ?_)
 |(with_reducible refine CU (zm _) ?_)
 | (with_reducible refine aF hQ ?_;exact aP))
  obtain⟨W,hW⟩ : ∃ W,rn p out (it.map Im.s)=W:=⟨_,rfl⟩
  rw[hW]at h2
  have hWR:W.length≤R.length:=by have:=(B5 h rest W).1;rw[h2]at this;exact this
  have WN:out.length≤W.length:=by have:=(B4 p (it.map Im.s) out).1;rw[hW]at this;exact this
  refine fz 1 1 (bo.ind (ι:=List Im×Nat×List aK×Nat) (fun i=>it.drop i.2.1=i.1∧rn p i.2.2.1 (i.1.map Im.s)=W∧i.2.2.1.length≤W.length∧i.2.2.2=i.2.2.1.length) (fun i=>i.1.length)
   (fun i=> [(2, .ptr 0 0),(5, .dN (gp p) 0),(6, .slice (.tok 0) 1 (i.2.2.1.map encStr)),(21, .slice .shared 1 (N.map encStr)),(22, .int .i64 (N.length:Int)),(23, .int .i64 (k:Int)),(31, .slice .shared 17 (it.map dM)),(32, .int .i64 (it.length:Int)),(33, .int .i64 (i.2.1:Int))]) (fun i=>⟨[bK p],[some i.2.2.2]⟩) ?_ (it,0,out,out.length) ⟨rfl,hW,WN,rfl⟩)
  rintro⟨sj,k2,Gq,no⟩ ⟨j1,j2,j3,j4⟩ D1
  dsimp only at j1 j2 j3 j4
  subst j4
  cases sj with
  |nil=>
   have aix:=drop_nil j1
   simp only[List.map_nil,rn]at j2
   subst j2
   repeat' (first
 |simp only[go_sem,hD,gA,gB,gC,aix]
 | (with_reducible refine aF hQ ?_;exact aP))
   refine eQ 1 1 ?_ ?_ (IH (rest,k+1,Gq,Gq.length) ⟨g2,h2,hWR,rfl⟩ (Nat.lt_succ_self _))
   ·(simp only[go_sem,hD,gA,gB,gC,aM cd];try exact bQ)
   ·(simp only[go_sem,hD,gA,gB,gC,aM cd];try exact bQ)
  |cons y sj=>
   obtain⟨oh,Qr,vW,jg4⟩:=drop_cons j1
   have wR:k2<4611686018427387904:=by omega
   have hym:y.s∈Sm.bH g.body:=by rw[← sV];exact List.mem_map_of_mem (List.mem_of_getElem? oh)
   have uv:=h.said WT _ hym
   have hsa:=fun s=>D2 uv s
   have H2:=Nw _ uv
   simp only[List.map_cons,rn]at j2
   repeat' (first
 |simp only[go_sem,hD,gA,gB,gC,vW,oh]
 |(with_reducible refine CU (hsa _) ?_)
 | (with_reducible refine aF hQ ?_;exact aP))
   obtain⟨V,hV⟩ : ∃ V,rm p Gq y.s.said=V:=⟨_,rfl⟩
   rw[hV]at j2
   have hVW:V.length≤W.length:=by have:=(B4 p (sj.map Im.s) V).1;rw[j2]at this;exact this
   have hoV:Gq.length≤V.length:=by have:=(B3 p y.s.said Gq).1;rw[hV]at this;exact this
   refine fz 1 1 (bo.ind (ι:=List aK×Nat×List aK×Nat) (fun i=>y.s.said.drop i.2.1=i.1∧rm p i.2.2.1 i.1=V∧i.2.2.1.length≤V.length∧i.2.2.2=i.2.2.1.length) (fun i=>i.1.length)
    (fun i=> [(2, .ptr 0 0),(5, .dN (gp p) 0),(6, .slice (.tok 0) 1 (i.2.2.1.map encStr)),(21, .slice .shared 1 (N.map encStr)),(22, .int .i64 (N.length:Int)),(23, .int .i64 (k:Int)),(31, .slice .shared 17 (it.map dM)),(32, .int .i64 (it.length:Int)),(33, .int .i64 (k2:Int)),(39, .slice .shared 1 (y.s.said.map encStr)),(40, .int .i64 (y.s.said.length:Int)),(41, .int .i64 (i.2.1:Int))]) (fun i=>⟨[bK p],[some i.2.2.2]⟩) ?_ (y.s.said,0,Gq,Gq.length) ⟨rfl,hV,hoV,rfl⟩)
   rintro⟨H6,k3,B6,no⟩ ⟨l1,l2,l3,l4⟩ IH3
   dsimp only at l1 l2 l3 l4
   subst l4
   cases H6 with
   |nil=>
    have auG:=drop_nil l1
    simp only[rm]at l2
    subst l2
    repeat' (first
 |simp only[go_sem,hD,gA,gB,gC,auG]
 | (with_reducible refine aF hQ ?_;exact aP))
    refine eQ 1 1 ?_ ?_ (D1 (sj,k2+1,B6,B6.length) ⟨Qr,j2,hVW,rfl⟩ (Nat.lt_succ_self _))
    ·(simp only[go_sem,hD,gA,gB,gC,aM wR];try exact bQ)
    ·(simp only[go_sem,hD,gA,gB,gC,aM wR];try exact bQ)
   | cons z H6=>
    obtain⟨aiy,lg2,llt,lg4⟩:=drop_cons l1
    have Kx:k3<4611686018427387904:=by omega
    have Kw:=fun g s=>kL (l:=p.globals) (by omega) z g s
    simp only[rm]at l2
    rcases Bool.eq_false_or_eq_true (fH p.globals z)with c1|c1
    ·simp only [c1,if_true]at l2
     have gB:(B6.length+1)*17≤bp:=by unfold bp;omega
     have hoo:(B6++ [z]).length≤V.length:=by have:=(B3 p H6 (B6++ [z])).1;rw[l2]at this;exact this
     repeat' (first
 |simp only[go_sem,hD,gA,gB,gC,llt,aiy,c1]
 |(with_reducible refine CU (Kw _ _) ?_)
 | (with_reducible refine aF hQ ?_;exact aP))
     refine eQ 1 1 ?_ ?_ (IH3 (H6,k3+1,B6++ [z],B6.length+1) ⟨lg2,l2,hoo,by simp⟩ (Nat.lt_succ_self _))
     ·(simp only[go_sem,hD,gA,gB,gC,aM Kx,List.map_append,List.map_cons,List.map_nil,encStr];try exact bQ)
     ·(simp only[go_sem,hD,gA,gB,gC,aM Kx,List.map_append,List.map_cons,List.map_nil,encStr];try exact bQ)
    ·simp only [c1,Bool.false_eq_true,if_false]at l2
     repeat' (first
 |simp only[go_sem,hD,gA,gB,gC,llt,aiy,c1]
 |(with_reducible refine CU (Kw _ _) ?_)
 |(with_reducible refine aF hQ ?_;exact aP))
     refine eQ 1 1 ?_ ?_ (IH3 (H6,k3+1,B6,B6.length) ⟨lg2,l2,l3,rfl⟩ (Nat.lt_succ_self _))
     ·(simp only[go_sem,hD,gA,gB,gC,aM Kx];try exact bQ)
     ·(simp only[go_sem,hD,gA,gB,gC,aM Kx];try exact bQ)
mutual
def Sm.WY (deep cW:Int) (aN:Bool):Sm→List It
 |⟨id,kind,labels,name,proc,x,has,args,aO,e⟩=>⟨⟨id,kind,labels,name,proc,x,has,args,aO,e⟩,deep,cW,aN⟩::(Sm.aao (deep+1) id false aO++Sm.aao (deep+1) id true e)
def Sm.aao (deep cW:Int) (aN:Bool):List Sm→List It
 | []=> []
 |s::l=>s.WY deep cW aN++Sm.aao deep cW aN l
end
def dA (l:List Sm) (none:Int):Int:=match l with| []=>none|t::_=>t.id
mutual
def Sm.tW (proc up next loop:Int):Sm→List Im
 |⟨id,kind,labels,name,pc,x,has,args,aO,aN⟩=>⟨⟨id,kind,labels,name,pc,x,has,args,aO,aN⟩,proc,up,next,loop⟩::
  (Sm.fJ proc id (if kind==6 then id else next) (if kind==6 then id else loop) aO++Sm.fJ proc id (if kind==6 then id else next) (if kind==6 then id else loop) aN)
def Sm.fJ (proc up next loop:Int):List Sm→List Im
 | []=> []
 |s::l=>s.tW proc up (dA l next) loop++Sm.fJ proc up next loop l
end
theorem H7 (proc up next loop:Int) (s:Sm):s.tW proc up next loop = ⟨s,proc,up,next,loop⟩::(Sm.fJ proc s.id (if s.kind==6 then s.id else next) (if s.kind==6 then s.id else loop) s.aO++Sm.fJ proc s.id (if s.kind==6 then s.id else next) (if s.kind==6 then s.id else loop) s.aN):=by cases s;simp only[Sm.tW]
def ql (n:Nat) (l:List Sm):Prop:=∀ (i:Nat) (v:Sm),l[i]? = some v→v.id=((n+i+1:Nat):Int)
theorem ql.head {n:Nat} {v:Sm} {l:List Sm} (h:ql n (v::l)):v.id=((n+1:Nat):Int):=h 0 v rfl
theorem ql.tail {n:Nat} {v:Sm} {l:List Sm} (h:ql n (v::l)):ql (n+1) l:=fun i w hw=>by
 rw[h (i+1) w (by simpa using hw)];congr 1;omega
theorem ql.left {n:Nat} {a b:List Sm} (h:ql n (a++b)):ql n a:=fun i w hw=>h i w (by rw[List.getElem?_append_left (List.getElem?_eq_some_iff.1 hw).1];exact hw)
theorem ql.right {n:Nat} {a b:List Sm} (h:ql n (a++b)):ql (n+a.length) b:=fun i w hw=>by
 rw[h (a.length+i) w (by rw[List.getElem?_append_right (by omega)];simpa using hw)];congr 1;omega
theorem aap (s:Sm):s.pre=s::(Sm.bH s.aO++Sm.bH s.aN):=Sm.np s
mutual
theorem Qw : ∀ s:Sm,s.kE=s.pre.length
 |⟨id,kind,labels,name,proc,x,has,args,aO,aN⟩=>by
  simp only[Sm.kE,Sm.pre,List.length_cons,List.length_append,B7 aO,B7 aN];omega
theorem B7 : ∀ l:List Sm,Sm.jJ l=(Sm.bH l).length
 | []=>rfl
 |s::l=>by simp only[Sm.jJ,Sm.bH,List.length_append,Qw s,B7 l]
end
mutual
theorem acY (proc up next loop:Int) : ∀ s:Sm,(s.tW proc up next loop).map Im.s=s.pre
 |⟨id,kind,labels,name,pc,x,has,args,aO,aN⟩=>by
  simp only[Sm.tW,Sm.pre,List.map_cons,List.map_append,tX _ _ _ _ aO,tX _ _ _ _ aN]
theorem tX (proc up next loop:Int) : ∀ l:List Sm,(Sm.fJ proc up next loop l).map Im.s=Sm.bH l
 | []=>rfl
 |s::l=>by simp only[Sm.fJ,Sm.bH,List.map_append,acY _ _ _ _ s,tX _ _ _ _ l]
end
theorem aeQ (proc up next loop:Int) (s:Sm):(s.tW proc up next loop).length=s.pre.length:=by rw[← acY proc up next loop s,List.length_map]
theorem Gr (proc up next loop:Int) (l:List Sm):(Sm.fJ proc up next loop l).length=(Sm.bH l).length:=by rw[← tX proc up next loop l,List.length_map]
mutual
theorem aeR (proc up next loop:Int) (out:List Im) : ∀ s:Sm,ql out.length s.pre→Im.one proc up next loop out s=out++s.tW proc up next loop
 | ⟨id,kind,labels,name,pc,x,has,args,aO,aN⟩,h=>by
  simp only[Sm.pre]at h
  have h0:id=((out.length+1:Nat):Int):=h.head
  have h1:=h.tail.left
  have h2:=h.tail.right
  have e0:((out.length:Int)+1)=id:=by rw[h0];rfl
  simp only[Im.one,Sm.tW,e0]
  rw[ya proc id _ _ (out++ [_]) aO (by rw[List.length_append];exact h1)]
  rw[ya proc id _ _ _ aN (by
   rw[List.length_append,List.length_append,Gr];exact h2)]
  simp
theorem ya (proc up next loop:Int) (out:List Im) : ∀ l:List Sm,ql out.length (Sm.bH l)→Im.rows proc up next loop out l=out++Sm.fJ proc up next loop l
 | [],h=>by simp[Im.rows,Sm.fJ]
 | s::l,h=>by
  simp only[Sm.bH]at h
  have e:(if l.length=0 then next else(out.length:Int)+1+(s.kE:Int))=dA l next:=by
   cases l with
   |nil=>rfl
   |cons t l=>
    have h2:=h.right
    simp only[Sm.bH]at h2
    rw[aap t]at h2
    simp only[List.length_cons,dA]
    rw[if_neg (by omega),h2.head,Qw]
    omega
  simp only[Im.rows,Sm.fJ,e]
  rw[aeR proc up _ loop out s h.left,ya proc up next loop _ l (by rw[List.length_append,aeQ];exact h.right)]
  simp
end
def rN (n:Nat):List Pc→List Im
 | []=> []
 |f::l=>Sm.fJ n 0 (-1) 0 f.body++rN (n+1) l
theorem WZ : ∀ (l:List Pc) (n:Nat) (h:Sh),ql h.L.length ((l.map fun f=>Sm.bH f.body).flatten)→(Sh.go n h l).L=h.L++rN n l
 | [],n,h,_=>by simp[Sh.go,rN]
 | f::l,n,h,hi=>by
  simp only[List.map_cons,List.flatten_cons]at hi
  simp only[Sh.go,rN]
  have e:=ya (n:Int) 0 (-1) 0 h.L f.body hi.left
  rw[WZ l (n+1) _ (by
   show ql (Im.rows (n:Int) 0 (-1) 0 h.L f.body).length _
   rw[e,List.length_append,Gr];exact hi.right)]
  show Im.rows (n:Int) 0 (-1) 0 h.L f.body++_=_
  rw[e];simp
theorem Qx {p:Pg} (h:p.may=true):ql 0 p.pre:=fun i v hv=>by rw[rY h hv];congr 1;omega
theorem Eg {p:Pg} (h:p.may=true):p.bb.L=rN 0 p.procs:=by
 have:=WZ p.procs 0 ⟨[],[],[]⟩ (Qx h)
 simpa[Pg.bb]using this
def W0 (l:List It):Nat→Int→Int
 | 0,_=>0
 |n+1,cW=>if cW==0 then 0 else match l[n]? with
  |none=>0
  |some x=>if x.s.id != cW then W0 l n cW else if x.s.kind==6 then cW else W0 l n x.cW
def Up (L:List It) (k:Nat) (WY:List It) (tW:List Im):Prop:=∀ (i:Nat) (a:It) (b:Im),WY[i]? = some a→tW[i]? = some b→a.s=b.s∧a.cW=b.up∧W0 L (k+i) a.cW=b.loop
def jR (seen:List aK):List aK→List aK×Bool
 | []=>(seen,true)
 |n::l=>if fH seen n then(seen,false)else jR (seen++ [n]) l
theorem Eh : ∀ (l seen:List aK),jR seen l=(if rX seen l then((jR seen l).1,false)else(seen++l,true))
 | [],seen=>by simp[jR,rX]
 | n::l,seen=>by
  simp only[jR,rX]
  split
  ·rfl
  ·rw [Eh l (seen++ [n])]
   split
   ·rfl
   ·simp
theorem Qy : ∀ (a b seen:List aK),rX seen (a++b)=(rX seen a ||rX (seen++a) b)
 | [],b,seen=>by simp[rX]
 |x::a,b,seen=>by
  simp only[List.cons_append,rX]
  split
  ·rfl
  ·rw[Qy a b (seen++ [x])];simp
theorem Ky : ∀ (l seen:List aK),seen.length≤(jR seen l).1.length∧(jR seen l).1.length≤seen.length+l.length
 | [],seen=>by simp[jR]
 |n::l,seen=>by
  simp only[jR]
  split
  ·simp
  ·have:=Ky l (seen++ [n]);simp at this ⊢;omega
def kl (ln:List aK) (v:Sm) (loop:Int):Bool:=if v.kind==7 ||v.kind==8 then loop != 0 else if v.kind==10 then fH ln v.name else true
def vu (ln fin seen:List aK):List (Sm×Int)→Option Int
 | []=>if(jR seen fin).2 then none else some 0
 |(v,lp)::l=>if(jR seen v.labels).2 then(if kl ln v lp then vu ln fin (jR seen v.labels).1 l else some v.id)else some v.id
def dK:List Sm→List aK
 | []=> []
 |v::l=>v.labels++dK l
def Pc.labels (f:Pc):List aK:=dK (Sm.bH f.body)++f.fin
def Im.pair (m:Im):Sm×Int:=(m.s,m.loop)
def Pc.sk (f:Pc):List (Sm×Int):=(Sm.fJ 0 0 (-1) 0 f.body).map Im.pair
def vv:List Pc→Option Int
 | []=>none
 |f::l=>match vu f.labels f.fin [] f.sk with
  |some id=>some id
  |none=>vv l
def Bj (c:Int):Option Int→Int×Int
 |some id=>(c,id)
 |none=>(0,0)
def Pg.jump (p:Pg):Int×Int:=if p.scope.1==0 then Bj 7 (vv p.procs)else(1,0)
mutual
theorem aaq (proc up next xc H8 next' loop:Int) : ∀ s:Sm,(s.tW proc up next loop).map Im.pair=(s.tW xc H8 next' loop).map Im.pair
 |⟨id,kind,labels,name,pc,x,has,args,aO,aN⟩=>by
  simp only[Sm.tW,List.map_cons,List.map_append,Im.pair]
  rw[zo proc id _ xc id (if kind==6 then id else next') _ aO,zo proc id _ xc id (if kind==6 then id else next') _ aN]
theorem zo (proc up next xc H8 next' loop:Int) : ∀ l:List Sm,(Sm.fJ proc up next loop l).map Im.pair=(Sm.fJ xc H8 next' loop l).map Im.pair
 | []=>rfl
 |s::l=>by
  simp only[Sm.fJ,List.map_append]
  rw[aaq proc up _ xc H8 (dA l next') loop s,zo proc up next xc H8 next' loop l]
end
theorem Gs (n:Int) (f:Pc):(Sm.fJ n 0 (-1) 0 f.body).map Im.pair=f.sk:=zo _ _ _ _ _ _ _ _
theorem aeS (f:Pc):f.sk.map Prod.fst=Sm.bH f.body:=by
 unfold Pc.sk
 rw[List.map_map, ← tX 0 0 (-1) 0 f.body]
 rfl
def Qz (l:List It):Nat→Int→Int
 | 0,_=>0
 |n+1,id=>match l[n]? with
  |none=>0
  |some x=>if x.s.id != id then Qz l n id else if W0 l n x.cW != 0 then W0 l n x.cW else Qz l n id
theorem QA : ∀ (l:List Pc) (n:Nat) (h:Sh),h.lo.length=n→h.hi.length=n→ql h.L.length ((l.map fun f=>Sm.bH f.body).flatten)→
 ∃ lo hi,Sh.go n h l = ⟨h.L++rN n l,h.lo++lo,h.hi++hi⟩∧lo.length=l.length∧hi.length=l.length∧
  ∀ (i:Nat) (f:Pc),l[i]? = some f→∃ a e:List Im,lo[i]? = some (((h.L++a).length:Int)+1)∧hi[i]? = some (((h.L++a++Sm.fJ ((n+i:Nat):Int) 0 (-1) 0 f.body).length:Int)+1)∧rN n l=a++Sm.fJ ((n+i:Nat):Int) 0 (-1) 0 f.body++e
 | [],n,h,hl,hh,_=>⟨[],[],by simp[Sh.go,rN],rfl,rfl,fun i f h=>by simp at h⟩
 | f::l,n,h,hl,hh,hi=>by
  simp only[List.map_cons,List.flatten_cons]at hi
  simp only[Sh.go,rN]
  have e1:=ya (n:Int) 0 (-1) 0 h.L f.body hi.left
  obtain⟨lo,iH,h2,h3,h4,h5⟩:=QA l (n+1) ⟨Im.rows (n:Int) 0 (-1) 0 h.L f.body,h.lo++ [(h.L.length:Int)+1],h.hi++ [((Im.rows (n:Int) 0 (-1) 0 h.L f.body).length:Int)+1]⟩ (by simp[hl]) (by simp[hh]) (by
   show ql (Im.rows (n:Int) 0 (-1) 0 h.L f.body).length _
   rw[e1,List.length_append,Gr];exact hi.right)
  refine⟨((h.L.length:Int)+1)::lo,(((Im.rows (n:Int) 0 (-1) 0 h.L f.body).length:Int)+1)::iH, ?_,by simp[h3],by simp[h4],fun i g iH=>?_⟩
  ·rw[h2,e1];simp
  ·cases i with
   |zero=>
    simp only[List.getElem?_cons_zero,Option.some.injEq]at iH
    subst iH
    exact⟨[],rN (n+1) l,by simp,by rw[e1];simp,by simp⟩
   |succ i=>
    simp only[List.getElem?_cons_succ]at iH
    obtain⟨a,e,g1,g2,g3⟩:=h5 i g iH
    have en:n+1+i=n+(i+1):=by omega
    rw[en]at g2 g3
    refine⟨Sm.fJ n 0 (-1) 0 f.body++a,e, ?_, ?_,by rw[g3];simp⟩
    ·rw[List.getElem?_cons_succ,g1,e1];simp
    ·rw[List.getElem?_cons_succ,g2,e1];simp
theorem aiz {p:Pg} (hb:p.may=true) {i:Nat} {f:Pc} (hf:p.procs[i]? = some f) (hs:Pc.aS p.procs<1000000000) (s:St) :
 aH Tryz.prog iY [.dN (gp p) 0, .int .i64 (i:Int)] s (.slice .shared 17 ((Sm.fJ (i:Int) 0 (-1) 0 f.body).map dM)) s:=by
 obtain⟨lo,hi,h1,h2,h3,h4⟩:=QA p.procs 0 ⟨[],[],[]⟩ rfl rfl (Qx hb)
 obtain⟨a,e,g1,g2,g3⟩:=h4 i f hf
 simp only[Nat.zero_add,List.nil_append]at g1 g2 g3 h1
 refine aib hs (a:=a) (e:=e) ?_ ?_ ?_ s
 ·show(Sh.go 0 ⟨[],[],[]⟩ p.procs).lo[i]? = _
  rw[h1];exact g1
 ·show(Sh.go 0 ⟨[],[],[]⟩ p.procs).hi[i]? = _
  rw[h1];exact g2
 ·show(Sh.go 0 ⟨[],[],[]⟩ p.procs).L=_
  rw[h1];exact g3
theorem aH.auH {P:Program} {f:FuncId} {pre post:List D} {rows qn:List (List D)} {z z' k k':Nat} {b:Bool} (h:aH P f (pre++ .slice (.tok 0) z rows::post) ⟨[],[some k]⟩ (.tuple [.slice (.tok 0) z' qn, .bool b]) ⟨[],[some k']⟩)
 (hp:D.bF 0 0 pre=true) (ha:D.bF 0 0 post=true) (hw:D.jg 0 0 rows=true) (hw':D.jg 0 0 qn=true)
 {s:St} {t:Nat} (ht:s.az[t]? = some (some k)):aH P f (pre++ .slice (.tok t) z rows::post) s (.tuple [.slice (.tok t) z' qn, .bool b]) ⟨s.aj,s.az.set t (some k')⟩:=by
 refine bS.frame [] [t] h (by simp) (by simp) (by simp) (by simpa using (List.getElem?_eq_some_iff.1 ht).1) rfl (fun i o' ds e1 e2=>by simp at e1) rfl (fun i t' e1=>?_)
  ?_ ?_ ?_
 ·cases i with
  |zero=>simp at e1;subst e1;simp[ht]
  |succ i=>simp at e1
 ·have h1:=fW [] [t] _ hp
  have h2:=fW [] [t] _ ha
  rw[gN]at h1 h2
  simp[gN,D.cO,Tag.cO,h1,h2,ke _ _ _ hw]
 ·have h1:=jt (n':=0) (m':=1) (Nat.le_refl 0) (Nat.zero_le 1) _ hp
  have h2:=jt (n':=0) (m':=1) (Nat.le_refl 0) (Nat.zero_le 1) _ ha
  rw[AQ]at h1 h2 ⊢
  simp only[List.length_nil,List.length_cons,List.all_append,h1,Bool.true_and,List.all_cons,h2,Bool.and_true,D.ok,Tag.ok,oa (Nat.zero_le 0) (Nat.zero_le 1) _ hw]
  rfl
 ·rintro _ _ ⟨rfl,rfl⟩
  refine⟨by simp[D.back,D.cO,D.fc,Tag.cO,kR,ke _ _ _ hw'], ?_⟩
  simp[St.back,lF]
theorem aiA {seen l:List aK} (hl:seen.length+l.length<1000000000):aH Tryz.prog rW [.slice (.tok 0) 1 (seen.map encStr), .slice .shared 1 (l.map encStr)] ⟨[],[some seen.length]⟩
 (.tuple [.slice (.tok 0) 1 ((jR seen l).1.map encStr), .bool (jR seen l).2]) ⟨[],[some (jR seen l).1.length]⟩:=by
 generalize hR:jR seen l=R
 refine aH.go Lo rfl fun B Q hB hQ=>?_
 have⟨hD,gA,gB,gC⟩:=bP
 repeat' (first
 |simp only[go_sem,hD,gA,gB,gC]
 |(with_reducible refine aF hQ ?_;exact aP))
 refine fz 0 1 (bo.ind (ι:=List aK×Nat×List aK×Nat) (fun i=>l.drop i.2.1=i.1∧jR i.2.2.1 i.1=R∧i.2.2.2=i.2.2.1.length∧i.2.2.1.length+i.1.length<1000000000) (fun i=>i.1.length)
  (fun i=> [(0, .slice (.tok 0) 1 (i.2.2.1.map encStr)),(8, .slice .shared 1 (l.map encStr)),(9, .int .i64 (l.length:Int)),(10, .int .i64 (i.2.1:Int))]) (fun i=>⟨[],[some i.2.2.2]⟩) ?_ (l,0,seen,seen.length) ⟨rfl,hR,rfl,hl⟩)
 clear hR
 rintro⟨rest,k,out,n⟩ ⟨h1,h2,h3,h4⟩ IH
 dsimp only at h1 h2 h3 h4
 subst h3
 cases rest with
 |nil=>
  have hD:=drop_nil h1
  simp only[jR]at h2
  subst h2
  repeat' (first
 |simp only[go_sem,hD,gA,gB,gC]
 |(with_reducible refine aF hQ ?_;exact aP))
 | cons x rest=>
  obtain⟨gA,g2,hD,g4⟩:=drop_cons h1
  have cd:k<4611686018427387904:=by omega
  simp only[List.length_cons]at h4
  have gB:(out.length+1)*17≤bp:=by unfold bp;omega
  have Kw:=fun g s=>kL (l:=out) (by omega) x g s
  simp only[jR]at h2
  rcases Bool.eq_false_or_eq_true (fH out x)with c1|c1
  ·simp only [c1,if_true]at h2
   subst h2
   repeat' (first
 |simp only[go_sem,hD,gA,gB,gC,c1]
 |(with_reducible refine CU (Kw _ _) ?_)
 | (with_reducible refine aF hQ ?_;exact aP))
  ·simp only [c1,Bool.false_eq_true,if_false]at h2
   repeat' (first
 |simp only[go_sem,hD,gA,gB,gC,c1]
 |(with_reducible refine CU (Kw _ _) ?_)
 | (with_reducible refine aF hQ ?_;exact aP))
   refine eQ 0 1 ?_ ?_ (IH (rest,k+1,out++ [x],out.length+1) ⟨g2,h2,by simp,by simp;omega⟩ (Nat.lt_succ_self _))
   ·(simp only[go_sem,hD,gA,gB,gC,aM cd,List.map_append,List.map_cons,List.map_nil,encStr];try exact bQ)
   ·(simp only[go_sem,hD,gA,gB,gC,aM cd,List.map_append,List.map_cons,List.map_nil,encStr];try exact bQ)
theorem W1 {seen l:List aK} (hl:seen.length+l.length<1000000000) {s:St} {t:Nat} (ht:s.az[t]? = some (some seen.length)):aH Tryz.prog rW [.slice (.tok t) 1 (seen.map encStr), .slice .shared 1 (l.map encStr)] s
 (.tuple [.slice (.tok t) 1 ((jR seen l).1.map encStr), .bool (jR seen l).2]) ⟨s.aj,s.az.set t (some (jR seen l).1.length)⟩:=
 (aiA hl).auH (pre:= []) (post:= [_]) rfl (by simp[D.bF,D.ok,Tag.ok,fK]) (fK _) (fK _) ht
theorem aar (x:Im):(dM x)[2]? = some (.slice .shared 1 (x.s.labels.map encStr)):=nd rfl
theorem W2 (x:Im):(dM x)[3]? = some (.str x.s.name):=nd rfl
attribute [go_sem] aar W2
def gP (fin:List aK) (label:aK):List Sm→Int×Bool
 | []=>if fH fin label then(-1,true)else(0,false)
 |v::l=>if fH v.labels label then(v.id,true)else gP fin label l
theorem zp (fin:List aK) (label:aK) : ∀ l:List Sm,(gP fin label l).2=fH (dK l++fin) label
 | []=>by simp only[gP,dK,List.nil_append];split<;>simp_all
 | v::l=>by
  simp only[gP,dK,List.append_assoc]
  have h:=zp fin label l
  rw[Bool.eq_iff_iff,fx]at h
  split
  ·rename_i c
   exact((fx _ _).2 (List.mem_append.2 (.inl ((fx _ _).1 c)))).symm
  ·rename_i c
   have:label∉v.labels:=fun m=>c ((fx _ _).2 m)
   rw[Bool.eq_iff_iff,h,fx]
   exact⟨fun m=>List.mem_append.2 (.inr m),fun m=>(List.mem_append.1 m).resolve_left this⟩
theorem NK {p:Pg} {v:Sm} (ho:p.jE) {f:Pc} (hf:f∈p.procs) (hv:v∈Sm.bH f.body):v.labels.length≤900000:=by
 have key : ∀ n:Nat,(∀ s:Sm,s.pre.length≤n→∀ v∈s.pre,v.labels.length≤s.size)∧(∀ l:List Sm,(Sm.bH l).length≤n→∀ v∈Sm.bH l,v.labels.length≤Sm.aS l):=by
  intro n
  induction n with
  |zero=>
   refine⟨fun s h=>by rw[Sm.np]at h;simp at h,fun l h v m=>?_⟩
   have:=List.eq_nil_of_length_eq_zero (Nat.le_zero.1 h)
   rw[this]at m;cases m
  | succ n ih=>
   have h1 : ∀ s:Sm,s.pre.length≤n+1→∀ v∈s.pre,v.labels.length≤s.size:=by
    intro s h v m
    rw[Sm.np]at h m
    simp only[List.length_cons,List.length_append]at h
    obtain⟨id,kind,labels,name,proc,x,has,args,aO,aN⟩:=s
    simp only[Sm.size]
    rcases List.mem_cons.1 m with rfl|m
    ·dsimp only;omega
    ·rcases List.mem_append.1 m with m | m
     ·have:=ih.2 aO (by dsimp only at h;omega) v m;omega
     ·have:=ih.2 aN (by dsimp only at h;omega) v m;omega
   refine⟨h1,fun l=>?_⟩
   induction l with
   |nil=>intro _ v m;cases m
   |cons s l W3=>
    intro h v m
    simp only[Sm.bH,List.length_append]at h
    simp only[Sm.bH]at m
    simp only[Sm.aS]
    rcases List.mem_append.1 m with m|m
    ·have:=h1 s (by omega) v m;omega
    ·have:=W3 (by omega) v m;omega
 have h1:=(key (Sm.bH f.body).length).2 f.body (Nat.le_refl _) v hv
 have h2:=Pc.cu hf
 have h3:=ho.procs.2.1
 simp only[Pc.size]at h2
 omega
theorem Kz {p:Pg} (ho:p.jE) {f:Pc} (hf:f∈p.procs):f.fin.length≤900000:=by
 have h2:=Pc.cu hf
 have h3:=ho.procs.2.1
 simp only[Pc.size]at h2
 omega
theorem H9 {p:Pg} (ho:p.jE) {f:Pc} (hf:f∈p.procs):(Sm.bH f.body).length≤900000:=by
 rw[← B7]
 have:=pz f.body
 have h2:=Pc.cu hf
 have h3:=ho.procs.2.1
 simp only[Pc.size]at h2
 omega
theorem aiB {p:Pg} (ho:p.jE) (hb:p.may=true) {i:Nat} {f:Pc} (hf:p.procs[i]? = some f) (label:aK) (s:St) :
 aH Tryz.prog qq [.dN (gp p) 0, .int .i64 (i:Int), .str label] s (.tuple [.int .i64 (gP f.fin label (Sm.bH f.body)).1, .bool (gP f.fin label (Sm.bH f.body)).2]) s:=by
 refine aH.pure ?_ (by simp[D.bF,D.ok,wC]) rfl s
 obtain⟨td,p8,sT⟩:=ho.procs
 have CT:=List.mem_of_getElem? hf
 have zm:=fun s=>aiz hb hf (by omega) s
 have rM:=tX (i:Int) 0 (-1) 0 f.body
 have NL:=H9 ho CT
 have yc:=Kz ho CT
 have FE:=fun s=>tR (l:=f.fin) (by omega) label s
 have qH:i<p.procs.length:=(List.getElem?_eq_some_iff.1 hf).1
 generalize hI:Sm.fJ (i:Int) 0 (-1) 0 f.body=I at *
 have hIl:I.length≤900000:=by rw[← rM,List.length_map]at NL;exact NL
 obtain⟨R,hR⟩ : ∃ R,gP f.fin label (Sm.bH f.body)=R:=⟨_,rfl⟩
 rw[hR]
 rw[← rM]at hR
 unfold S0
 refine aH.go Fg rfl fun B Q hB hQ=>?_
 have⟨hD,gA,gB,gC⟩:=bP
 repeat' (first
 |simp only[go_sem,hD,gA,gB,gC]
 |(with_reducible refine CU (zm _) ?_)
 |(with_reducible refine aF hQ ?_;exact aP))
 refine fz 0 0 (bo.ind (ι:=List Im×Nat) (fun j=>I.drop j.2=j.1∧gP f.fin label (j.1.map Im.s)=R) (fun j=>j.1.length)
  (fun j=> [(0, .dN (gp p) 0),(1, .int .i64 (i:Int)),(2, .str label),(12, .slice .shared 17 (I.map dM)),(13, .int .i64 (I.length:Int)),(14, .int .i64 (j.2:Int))]) (fun j=>⟨[],[]⟩) ?_ (I,0) ⟨rfl,hR⟩)
 clear hR
 rintro⟨rest,k⟩ ⟨h1,h2⟩ IH
 dsimp only at h1 h2
 cases rest with
 | nil=>
  have hD:=drop_nil h1
  simp only[List.map_nil,gP]at h2
  rcases Bool.eq_false_or_eq_true (fH f.fin label)with c1|c1
  ·simp only [c1,if_true]at h2
   subst h2
   repeat' (first
 |simp only[go_sem,hD,gA,gB,gC,qQ,hf,c1]
 |(with_reducible refine CU (FE _) ?_)
 | (with_reducible refine aF hQ ?_;exact aP))
  ·simp only [c1,Bool.false_eq_true,if_false]at h2
   subst h2
   repeat' (first
 |simp only[go_sem,hD,gA,gB,gC,qQ,hf,c1]
 |(with_reducible refine CU (FE _) ?_)
 |(with_reducible refine aF hQ ?_;exact aP))
 | cons a rest=>
  obtain⟨gA,g2,hD,g4⟩:=drop_cons h1
  have cd:k<4611686018427387904:=by omega
  have CX:a.s∈Sm.bH f.body:=by rw[← rM];exact List.mem_map_of_mem (List.mem_of_getElem? gA)
  have nB:=fun s=>tR (l:=a.s.labels) (by have:=NK ho CT CX;omega) label s
  simp only[List.map_cons,gP]at h2
  rcases Bool.eq_false_or_eq_true (fH a.s.labels label)with c1|c1
  ·simp only [c1,if_true]at h2
   subst h2
   repeat' (first
 |simp only[go_sem,hD,gA,gB,gC,c1]
 |(with_reducible refine CU (nB _) ?_)
 | (with_reducible refine aF hQ ?_;exact aP))
  ·simp only [c1,Bool.false_eq_true,if_false]at h2
   repeat' (first
 |simp only[go_sem,hD,gA,gB,gC,c1]
 |(with_reducible refine CU (nB _) ?_)
 | (with_reducible refine aF hQ ?_;exact aP))
   refine eQ 0 0 ?_ ?_ (IH (rest,k+1) ⟨g2,h2⟩ (Nat.lt_succ_self _))
   ·(simp only[go_sem,hD,gA,gB,gC,aM cd];try exact bQ)
   ·(simp only[go_sem,hD,gA,gB,gC,aM cd];try exact bQ)
theorem aeT {p:Pg} (ho:p.jE) (hb:p.may=true) {i:Nat} {f:Pc} (hf:p.procs[i]? = some f) (m:Im) (hm:m.proc=(i:Int)) (s:St) :
 aH Tryz.prog xQ [.dN (gp p) 0, .agg (dM m)] s (.bool (kl f.labels m.s m.loop)) s:=by
 refine aH.pure ?_ (by simp[D.bF,D.ok,wC,TE]) rfl s
 have tj:=fun s=>aiB ho hb hf m.s.name s
 have aiC:=zp f.fin m.s.name (Sm.bH f.body)
 rw[← hm]at tj
 obtain⟨A,hA⟩ : ∃ A,gP f.fin m.s.name (Sm.bH f.body)=A:=⟨_,rfl⟩
 rw[hA]at tj aiC
 obtain⟨R,hR⟩ : ∃ R,kl f.labels m.s m.loop=R:=⟨_,rfl⟩
 rw[hR]
 unfold kl Pc.labels at hR
 unfold S0
 rcases Bool.eq_false_or_eq_true (m.s.kind==7)with c1|c1
 ·simp only [c1,Bool.true_or,if_true]at hR
  subst hR
  refine aH.go ri rfl fun B Q hB hQ=>?_
  have⟨hD,gA,gB,gC⟩:=bP
  repeat' (first
 |simp only[go_sem,hD,gA,gB,gC,c1]
 |(with_reducible refine aF hQ ?_;exact aP))
 rcases Bool.eq_false_or_eq_true (m.s.kind==8)with c2|c2
 ·simp only [c1,c2,Bool.or_true,if_true]at hR
  subst hR
  refine aH.go ri rfl fun B Q hB hQ=>?_
  have⟨hD,gA,gB,gC⟩:=bP
  repeat' (first
 |simp only[go_sem,hD,gA,gB,gC,c1,c2]
 |(with_reducible refine aF hQ ?_;exact aP))
 rcases Bool.eq_false_or_eq_true (m.s.kind==10)with c3|c3
 ·simp only [c1,c2,c3,Bool.or_self,Bool.false_eq_true,if_false,if_true, ← aiC]at hR
  subst hR
  refine aH.go ri rfl fun B Q hB hQ=>?_
  have⟨hD,gA,gB,gC⟩:=bP
  repeat' (first
 |simp only[go_sem,hD,gA,gB,gC,c1,c2,c3]
 |(with_reducible refine CU (tj _) ?_)
 |(with_reducible refine aF hQ ?_;exact aP))
 ·simp only [c1,c2,c3,Bool.or_self,Bool.false_eq_true,if_false]at hR
  subst hR
  refine aH.go ri rfl fun B Q hB hQ=>?_
  have⟨hD,gA,gB,gC⟩:=bP
  repeat' (first
 |simp only[go_sem,hD,gA,gB,gC,c1,c2,c3]
 |(with_reducible refine aF hQ ?_;exact aP))
end Go.Abs
namespace Go.Abs
def Ia (x:Int):Int:=IntKind.wrap .i64 x
def uV (b:Bool):Int:=if b then 1 else 0
def TU (op a:Int):Int×Bool:=if op==3 then(Ia (0 - a),true)else if op==4 then(uV (a==0),true)else(0,false)
def TV (op a b:Int):Int×Bool:=
 if b==0 then(0,false)
 else if b == -1 then if op==7 then(0,true)else if a == -9223372036854775808 then(a,true)else(Ia (0 - a),true)
 else if op==7 then(a.tmod b,true)else(Ia (a.tdiv b),true)
def TW (op a b:Int):Int×Bool:=
 if op==10 then(uV (decide (a<b)),true)else if op==11 then(uV (decide (a≤b)),true)else if op==12 then(uV (decide (a > b)),true)
 else if op==13 then(uV (decide (a≥b)),true)else if op==14 then(uV (a==b),true)else if op==15 then(uV (!(a==b)),true)else(0,false)
def TX (op a b:Int):Int×Bool:=
 if op==8 then(Ia (a+b),true)else if op==9 then(Ia (a - b),true)else if op==5 then(Ia (a*b),true)
 else if op==6 ||op==7 then TV op a b
 else if op==16 then(uV (!(a==0) && !(b==0)),true)else if op==17 then(uV (!(a==0) || !(b==0)),true)
 else TW op a b
def TY (name:aK) (names:List aK) (bD:List Int):Int:=if j7 name 0 names≥0 then bD.getD (j7 name 0 names).toNat 0 else 0
def Ib (op:Int):List (Int×Bool)→Int×Bool
 | []=>(0,false)
 | [a]=>if a.2 then TU op a.1 else(0,false)
 |a::b::_=>if !a.2 then(0,false)else if op==16 && a.1==0 then(0,true)else if op==17 && !(a.1==0)then(1,true)else if !b.2 then(0,false)else TX op a.1 b.1
mutual
def Ex.val (names:List aK) (bD:List Int):Ex→Int×Bool
 |⟨op,n,name,kids⟩=>if op==1 then(n,true)else if op==2 then(TY name names bD,true)else Ib op (Ex.NM names bD kids)
def Ex.NM (names:List aK) (bD:List Int):List Ex→List (Int×Bool)
 | []=> []
 |x::l=>x.val names bD::Ex.NM names bD l
end
def Ex.bj (x:Ex) (names:List aK) (bD:List Int):Int×Bool:=if x.may then x.val names bD else(0,false)
structure Fr where
 proc:Int
 names:List aK
 vars:List Nat
 call:Int
structure Mc where
 st:List Fr
 mem:List Int
 fin:Int
 steps:Int
 reads:Int
 out:List Int
 trace:List (Int×List Int)
def Mc.event (W:List Int) (m:Mc) (id:Int) (bD:List Int):Mc:=if W.contains id then {m with trace:=m.trace++ [(id,bD)]}else m
def Mc.top (m:Mc):Fr:=m.st.headD ⟨0,[],[],0⟩
def Mc.bD (m:Mc):List Int:=m.top.vars.map fun c=>m.mem.getD c 0
def Mc.cell (m:Mc) (name:aK):Nat:=m.top.vars.getD (j7 name 0 m.top.names).toNat 0
def Mc.set (m:Mc) (name:aK) (v:Int):Mc:= {m with mem:=m.mem.set (m.cell name) v}
def Mc.bj (m:Mc) (x:Ex):(Int×Bool)×Mc:=
 let r:=x.bj m.top.names m.bD
 (r,if r.2 then m else {m with fin:=4})
def Mc.open (p:Pg) (m:Mc) (i:Int) (params:List Nat) (call:Int):Int×Mc:=
 match p.procs[i.toNat]? with
 |none=>(-1,m)
 |some f=>(dA f.body (-1),{m with st:=⟨i,p.globals++f.own,List.range p.globals.length++params++(List.range f.vars.length).map (m.mem.length + ·),call⟩::m.st,mem:=m.mem++List.replicate f.vars.length 0})
def dZ (L:List Im) (id:Int):Im:=L.getD (id - 1).toNat ⟨J9,0,0,0,0⟩
def Mc.close (L:List Im) (m:Mc) (Ak:Int):Int×Mc:=
 let call:=m.top.call
 let m:= {m with st:=m.st.tail}
 if call==0 then(-1,{m with fin:=1})
 else
  let it:=dZ L call
  (it.next,if it.s.name == []then m else m.set it.s.name Ak)
def Mc.fI (W:List Int) (m:Mc) (s:Sm):Int×Mc:=
 if s.has then
  let r:=m.bj s.x
  (r.1.1,if r.1.2 then r.2.event W s.id [r.1.1]else r.2)
 else(0,m.event W s.id [])
def Mc.args:List Ar→Mc→List Nat→Option (List Nat)×Mc
 | [],m,out=>(some out,m)
 | a::l,m,out=>
  if a.ref then Mc.args l m (out++ [m.cell a.name])
  else
   let r:=m.bj a.x
   if r.1.2 then Mc.args l {r.2 with mem:=r.2.mem++ [r.1.1]} (out++ [r.2.mem.length])else(none,r.2)
def Mc.call (p:Pg) (W:List Int) (m:Mc) (s:Sm):Int×Mc:=
 match Mc.args s.args m []with
 |(none,m)=>(-1,m)
 |(some l,m)=>if m.st.length > 100 then(-1,{m with fin:=5})else(m.event W s.id []).open p (p.at s.proc) l s.id
def firstM (l:List Sm) (other:Int):Int:=dA l other
def Mc.do (p:Pg) (L:List Im) (tape W:List Int) (m:Mc) (it:Im):Int×Mc:=
 let s:=it.s
 if s.kind==7 then((dZ L it.loop).next,m.event W s.id [])
 else if s.kind==8 then(it.loop,m.event W s.id [])
 else if s.kind==10 then((match p.procs[it.proc.toNat]? with|some f=>(gP f.fin s.name (Sm.bH f.body)).1|none=>0),m.event W s.id [])
 else if s.kind==2 then
  match tape[m.reads.toNat]? with
  |none=>(-1,{m with fin:=3})
  |some n=>(it.next,(({m with reads:=m.reads+1} : Mc).set s.name n).event W s.id [n])
 else
  let r:=m.bj s.x
  if r.1.2 then
   let m:=r.2.event W s.id [r.1.1]
   let n:=r.1.1
   if s.kind==1 then(it.next,m.set s.name n)
   else if s.kind==3 then(it.next,{m with out:=m.out++ [n]})
   else if s.kind==5 then(if n==0 then firstM s.aN it.next else firstM s.aO it.next,m)
   else if s.kind==6 then(if n==0 then it.next else firstM s.aO s.id,m)
   else(it.next,m)
  else(-1,r.2)
def Mc.back (L:List Im) (m:Mc) (Ak:Int):Option Int×Mc:=
 let r:=m.close L Ak
 (if r.2.fin==0 then some r.1 else none,r.2)
def Mc.next (p:Pg) (L:List Im) (tape W:List Int) (fuel:Int) (at_:Int) (m:Mc):Option Int×Mc:=
 if at_ == -1 then m.back L 0
 else if m.steps==fuel then(none,{m with fin:=2})
 else
  let m:= {m with steps:=m.steps+1}
  let it:=dZ L at_
  if it.s.kind==4 then
   let r:=m.call p W it.s
   (if r.2.fin==0 then some r.1 else none,r.2)
  else if it.s.kind==9 then
   let r:=m.fI W it.s
   if r.2.fin==0 then r.2.back L r.1 else(none,r.2)
  else
   let r:=m.do p L tape W it
   (if r.2.fin==0 then some r.1 else none,r.2)
def Mc.go (p:Pg) (L:List Im) (tape W:List Int) (fuel:Int):Nat→Int→Mc→Option Mc
 | 0,_,_=>none
 |N+1,at_,m=>
  match m.next p L tape W fuel at_ with
  |(none,m)=>some m
  |(some a,m)=>Mc.go p L tape W fuel N a m
def kM (p:Pg):Mc:=⟨[],List.replicate p.globals.length 0,0,0,0,[],[]⟩
def runM (p:Pg) (tape W:List Int) (fuel:Int):Option Mc:=
 let r:=(kM p).open p (p.at jb) [] 0
 Mc.go p p.bb.L tape W fuel (2*fuel.toNat+3) r.1 r.2
theorem fF (W:List Int) (m:Mc) (id:Int) (bD:List Int):(m.event W id bD).st=m.st∧(m.event W id bD).mem=m.mem∧(m.event W id bD).fin=m.fin∧(m.event W id bD).steps=m.steps∧(m.event W id bD).reads=m.reads∧(m.event W id bD).out=m.out:=by
 unfold Mc.event;split<;>exact⟨rfl,rfl,rfl,rfl,rfl,rfl⟩
theorem iR (m:Mc) (x:Ex):(m.bj x).2.st=m.st∧(m.bj x).2.mem=m.mem∧(m.bj x).2.steps=m.steps∧(m.bj x).2.reads=m.reads∧(m.bj x).2.out=m.out∧(m.bj x).2.trace=m.trace:=by
 unfold Mc.bj;dsimp only;split<;>exact⟨rfl,rfl,rfl,rfl,rfl,rfl⟩
theorem xj : ∀ (l:List Ar) (m:Mc) (out:List Nat),(Mc.args l m out).2.st=m.st∧(Mc.args l m out).2.steps=m.steps
 | [],m,out=>⟨rfl,rfl⟩
 | a::l,m,out=>by
  simp only[Mc.args]
  split
  ·exact xj l m _
  ·have h:=iR m a.x
   split
   ·have:=xj l {(m.bj a.x).2 with mem:=(m.bj a.x).2.mem++ [(m.bj a.x).1.1]} (out++ [(m.bj a.x).2.mem.length])
    exact⟨this.1.trans h.1,this.2.trans h.2.2.1⟩
   ·exact⟨h.1,h.2.2.1⟩
theorem Bk (p:Pg) (m:Mc) (i:Int) (l:List Nat) (c:Int):(m.open p i l c).2.st.length≤m.st.length+1∧(m.open p i l c).2.steps=m.steps:=by
 unfold Mc.open;split
 ·exact⟨Nat.le_succ _,rfl⟩
 ·exact⟨Nat.le_refl _,rfl⟩
theorem QB (p:Pg) (W:List Int) (m:Mc) (s:Sm):(m.call p W s).2.st.length≤m.st.length+1∧(m.call p W s).2.steps=m.steps:=by
 have h:=xj s.args m []
 unfold Mc.call
 generalize Mc.args s.args m [] = r at *
 obtain⟨o,m1⟩:=r
 dsimp only at h
 cases o with
 |none=>dsimp only;rw[h.1,h.2];exact⟨Nat.le_succ _,rfl⟩
 | some l=>
  dsimp only
  split
  ·dsimp only;rw[h.1,h.2];exact⟨Nat.le_succ _,rfl⟩
  ·have h2:=Bk p (m1.event W s.id []) (p.at s.proc) l s.id
   rw[(fF ..).1,(fF ..).2.2.2.1,h.1,h.2]at h2
   exact h2
theorem B8 (W:List Int) (m:Mc) (s:Sm):(m.fI W s).2.st=m.st∧(m.fI W s).2.steps=m.steps:=by
 have h:=iR m s.x
 unfold Mc.fI
 dsimp only
 split
 ·split
  ·exact⟨(fF ..).1.trans h.1,(fF ..).2.2.2.1.trans h.2.2.1⟩
  ·exact⟨h.1,h.2.2.1⟩
 ·exact⟨(fF ..).1,(fF ..).2.2.2.1⟩
theorem T1 (p:Pg) (L:List Im) (tape W:List Int) (m:Mc) (it:Im):(m.do p L tape W it).2.st=m.st∧(m.do p L tape W it).2.steps=m.steps:=by
 have h:=iR m it.s.x
 have e:=fun(m:Mc) id bD=>(⟨(fF W m id bD).1,(fF W m id bD).2.2.2.1⟩:(m.event W id bD).st=m.st∧(m.event W id bD).steps=m.steps)
 unfold Mc.do
 dsimp only
 repeat' split
 all_goals first
  |exact e ..
  |exact⟨rfl,rfl⟩
  |exact⟨(e ..).1.trans h.1,(e ..).2.trans h.2.2.1⟩
  |exact⟨h.1,h.2.2.1⟩
theorem NN (L:List Im) (m:Mc) (g:Int):(m.close L g).2.st=m.st.tail∧(m.close L g).2.steps=m.steps∧(m.st = []→(m.close L g).2.fin=1):=by
 unfold Mc.close
 dsimp only
 split
 ·exact⟨rfl,rfl,fun _=>rfl⟩
 ·rename_i hc
  refine⟨by split<;>rfl,by split<;>rfl,fun e=>absurd ?_ hc⟩
  simp[Mc.top,e]
theorem back_eq {L:List Im} {m:Mc} {g:Int} {a:Int} {m':Mc} (h:m.back L g=(some a,m')):m'.st.length<m.st.length∧m'.steps=m.steps:=by
 obtain⟨h1,h2,h3⟩:=NN L m g
 unfold Mc.back at h
 dsimp only at h
 split at h
 ·rename_i hf
  simp only[Prod.mk.injEq]at h
  rw[← h.2]
  refine⟨?_,h2⟩
  rw[h1,List.length_tail]
  cases e:m.st with
  |nil=>rw[h3 e]at hf;cases hf
  |cons x l=>simp
 ·simp at h
theorem QC {p:Pg} {L:List Im} {tape W:List Int} {fuel a a':Int} {m m':Mc} (hs:m.steps≤fuel) (h:m.next p L tape W fuel a=(some a',m')) :
 m'.steps≤fuel∧2*(fuel - m'.steps)+m'.st.length<2*(fuel - m.steps)+m.st.length:=by
 unfold Mc.next at h
 split at h
 ·have:=back_eq h;omega
 split at h
 ·simp at h
 rename_i fu
 have hD:m.steps<fuel:=by(have:m.steps≠fuel:=by simpa using fu);omega
 dsimp only at h
 split at h
 ·have h1:=QB p W {m with steps:=m.steps+1} (dZ L a).s
  simp only[Prod.mk.injEq]at h
  rw[← h.2]
  dsimp only at h1
  omega
 split at h
 ·have h1:=B8 W {m with steps:=m.steps+1} (dZ L a).s
  dsimp only at h1
  split at h
  ·have h2:=back_eq h
   rw[h1.1,h1.2]at h2
   omega
  ·simp at h
 ·have h1:=T1 p L tape W {m with steps:=m.steps+1} (dZ L a)
  simp only[Prod.mk.injEq]at h
  rw[← h.2,h1.1,h1.2]
  dsimp only
  omega
theorem QD (p:Pg) (L:List Im) (tape W:List Int) (fuel:Int) : ∀ (N:Nat) (a:Int) (m:Mc),m.steps≤fuel→2*(fuel - m.steps)+m.st.length<N→∃ m',Mc.go p L tape W fuel N a m=some m'
 | 0,_,_,_,h=>by omega
 | N+1,a,m,hs,h=>by
  simp only[Mc.go]
  cases e:m.next p L tape W fuel a with
  | mk o m1=>
   cases o with
   |none=>exact⟨m1,rfl⟩
   |some a1=>
    have:=QC hs e
    exact QD p L tape W fuel N a1 m1 this.1 (by omega)
theorem KA (p:Pg) (tape W:List Int) {fuel:Int} (h:0≤fuel) : ∃ m,runM p tape W fuel=some m:=by
 unfold runM
 have h1:=Bk p (kM p) (p.at jb) [] 0
 have e1:(kM p).st.length=0:=rfl
 have e2:(kM p).steps=0:=rfl
 rw[e1,e2]at h1
 exact QD p _ tape W fuel _ _ _ (by rw[h1.2];exact h) (by rw[h1.2];omega)
structure Grow (m m':Mc):Prop where
 trace : ∃ t,m'.trace=m.trace++t
 out : ∃ t,m'.out=m.out++t
 reads:m.reads≤m'.reads
 steps:m.steps≤m'.steps
def pO (L:List Im) (a:Int):Prop:=a = -1∨(1≤a∧a≤(L.length:Int))
theorem qU {L:List Im} {a:Int} (h:pO L a) (hn:a≠ -1):dZ L a∈L:=by
 rcases h with h|⟨h1,h2⟩
 ·exact absurd h hn
 ·unfold dZ
  rw[List.getD_eq_getElem?_getD,List.getElem?_eq_getElem (show(a - 1).toNat<L.length by omega)]
  exact List.getElem_mem _
structure CY (p:Pg) (L:List Im):Prop where
 id : ∀ x∈L,1≤x.s.id∧x.s.id≤(L.length:Int)
 next : ∀ x∈L,pO L x.next
 loop : ∀ x∈L,x.s.kind=7∨x.s.kind=8→1≤x.loop∧x.loop≤(L.length:Int)
 uW : ∀ x∈L,x.s.kind=10→∃ f,p.procs[x.proc.toNat]? = some f∧pO L (gP f.fin x.s.name (Sm.bH f.body)).1
 aO : ∀ x∈L,pO L (dA x.s.aO (-1))
 aN : ∀ x∈L,pO L (dA x.s.aN (-1))
 ja : ∀ f∈p.procs,pO L (dA f.body (-1))
def qm (L:List Im) (m:Mc):Prop:=∀ fr∈m.st,fr.call=0∨(1≤fr.call∧fr.call≤(L.length:Int))
theorem Gt {L:List Im} {l:List Sm} {o:Int} (h:pO L (dA l (-1))) (ho:pO L o):pO L (firstM l o):=by
 cases l with
 |nil=>exact ho
 |cons s l=>exact h
theorem qm.of {L:List Im} {m m':Mc} (h:qm L m) (e:m'.st=m.st):qm L m':=by unfold qm;rw[e];exact h
def Told (L:List Im) (r:Option Int×Mc):Prop:=
 match r.1 with
 |some a=>pO L a∧qm L r.2∧r.2.fin=0∧(r.2.trace.length:Int)=r.2.steps
 |none=>((r.2.fin=1∨r.2.fin=2)∧(r.2.trace.length:Int)=r.2.steps)∨((r.2.fin=3∨r.2.fin=4∨r.2.fin=5)∧(r.2.trace.length:Int)+1=r.2.steps)
theorem xd {W:List Int} {m:Mc} {id:Int} {bD:List Int} (h:W.contains id=true):(m.event W id bD).trace=m.trace++ [(id,bD)]∧(m.event W id bD).fin=m.fin:=by
 unfold Mc.event;rw[if_pos h];exact⟨rfl,rfl⟩
theorem Ei (m:Mc) (x:Ex) (h:m.fin=0):((m.bj x).1.2=true→(m.bj x).2.fin=0)∧((m.bj x).1.2=false→(m.bj x).2.fin=4):=by
 unfold Mc.bj
 dsimp only
 constructor
 ·intro e;rw[if_pos e];exact h
 ·intro e;rw[e];rfl
theorem KB {p:Pg} {L:List Im} (hL:CY p L) {m:Mc} {g:Int} (hs:qm L m) (hf:m.fin=0) (ht:(m.trace.length:Int)=m.steps):Told L (m.back L g):=by
 unfold Mc.back Mc.close
 dsimp only
 by_cases hc:(m.top.call==0)=true
 ·rw [if_pos hc]
  exact .inl ⟨.inl rfl,ht⟩
 ·rw [if_neg hc]
  have fu:m.top.call≠0:=by simpa using hc
  have TR:1≤m.top.call∧m.top.call≤(L.length:Int):=by
   cases e:m.st with
   |nil=>simp[Mc.top,e]at fu
   |cons fr l=>
    have:m.top=fr:=by simp[Mc.top,e]
    rw[this]at fu ⊢
    exact(hs fr (by rw[e];exact List.mem_cons_self ..)).resolve_left fu
  have iO:=qU (L:=L) (.inr TR) (by omega)
  have iL:qm L {m with st:=m.st.tail}:=fun fr uz=>hs fr (List.mem_of_mem_tail uz)
  have e0 : ∀ m1:Mc,m1.fin=0→(m1.fin==0)=true:=fun m1 h=>by rw[h];rfl
  split
  ·rw[if_pos (e0 _ hf)];exact⟨hL.next _ iO,iL,hf,ht⟩
  ·rw[if_pos (e0 _ (by exact hf))];exact⟨hL.next _ iO,iL.of rfl,hf,ht⟩
theorem B9 : ∀ (l:List Ar) (m:Mc) (out:List Nat),m.fin=0→(Mc.args l m out).2.trace=m.trace∧(match (Mc.args l m out).1 with|some _=>(Mc.args l m out).2.fin=0|none=>(Mc.args l m out).2.fin=4)
 | [],m,out,h=>⟨rfl,h⟩
 | a::l,m,out,h=>by
  have hw:=Ei m a.x h
  have he:=iR m a.x
  simp only[Mc.args]
  by_cases c:a.ref=true
  ·rw[if_pos c];exact B9 l m _ h
  ·rw [if_neg c]
   by_cases c2:(m.bj a.x).1.2=true
   ·rw [if_pos c2]
    obtain⟨h1,h2⟩:=B9 l {(m.bj a.x).2 with mem:=(m.bj a.x).2.mem++ [(m.bj a.x).1.1]} (out++ [(m.bj a.x).2.mem.length]) (hw.1 c2)
    exact⟨h1.trans he.2.2.2.2.2,h2⟩
   ·rw [if_neg c2]
    exact⟨he.2.2.2.2.2,hw.2 (by simpa using c2)⟩
def Ej (L:List Im) (r:Int×Mc):Prop:=
 (r.2.fin=0∧pO L r.1∧qm L r.2∧(r.2.trace.length:Int)=r.2.steps)∨((r.2.fin=3∨r.2.fin=4∨r.2.fin=5)∧(r.2.trace.length:Int)+1=r.2.steps)
theorem Ej.told {L:List Im} {r:Int×Mc} (h:Ej L r):Told L (if r.2.fin==0 then some r.1 else none,r.2):=by
 obtain⟨a,m⟩:=r
 rcases h with ⟨h1,h2,h3,h4⟩|⟨h1,h2⟩
 ·dsimp only at h1 h2 h3 h4 ⊢
  rw[if_pos (by rw[h1];rfl)]
  exact⟨h2,h3,h1,h4⟩
 ·dsimp only at h1 h2 ⊢
  rw[if_neg (by simp only[beq_iff_eq];omega)]
  exact .inr ⟨h1,h2⟩
theorem W4 {p:Pg} {L:List Im} (hL:CY p L) {W:List Int} {m:Mc} {x:Im} (hx:x∈L) (hw:W.contains x.s.id=true) (hs:qm L m) (hf:m.fin=0) (ht:(m.trace.length:Int)+1=m.steps) :
 Ej L (m.call p W x.s):=by
 have h:=xj x.s.args m []
 have h2:=B9 x.s.args m [] hf
 unfold Mc.call
 generalize Mc.args x.s.args m [] = r at *
 obtain⟨o,m1⟩:=r
 dsimp only at h h2
 cases o with
 |none=>
  dsimp only at h2 ⊢
  exact .inr ⟨.inr (.inl h2.2),by dsimp only;rw[h2.1,h.2];exact ht⟩
 | some l=>
  dsimp only at h2 ⊢
  by_cases c:m1.st.length > 100
  ·rw [if_pos c]
   exact .inr ⟨.inr (.inr rfl),by dsimp only;rw[h2.1,h.2];exact ht⟩
  ·rw [if_neg c]
   obtain⟨e1,e2⟩:=xd (m:=m1) (bD:= []) hw
   have e3:=fF W m1 x.s.id []
   have xu:qm L (m1.event W x.s.id []):=hs.of (e3.1.trans h.1)
   have ze:((m1.event W x.s.id []).trace.length:Int)=(m1.event W x.s.id []).steps:=by
    rw[e1,e3.2.2.2.1,h2.1,h.2,List.length_append]
    simp only[List.length_cons,List.length_nil];omega
   have Qs:(m1.event W x.s.id []).fin=0:=e2.trans h2.2
   unfold Mc.open
   cases hp:p.procs[(p.at x.s.proc).toNat]? with
   |none=>exact .inl ⟨Qs, .inl rfl,xu,ze⟩
   |some f=>
    refine .inl ⟨Qs,hL.ja f (List.mem_of_getElem? hp),fun fr uz=>?_,ze⟩
    rcases List.mem_cons.1 uz with rfl|uz
    ·exact .inr (hL.id x hx)
    ·exact xu fr uz
theorem T2 {p:Pg} {L:List Im} (hL:CY p L) {W:List Int} {m:Mc} {x:Im} (hw:W.contains x.s.id=true) (hs:qm L m) (hf:m.fin=0) (ht:(m.trace.length:Int)+1=m.steps) :
 Told L (if(m.fI W x.s).2.fin==0 then(m.fI W x.s).2.back L (m.fI W x.s).1 else(none,(m.fI W x.s).2)):=by
 have he:=B8 W m x.s
 have key:((m.fI W x.s).2.fin=0∧((m.fI W x.s).2.trace.length:Int)=(m.fI W x.s).2.steps)∨((m.fI W x.s).2.fin=4∧((m.fI W x.s).2.trace.length:Int)+1=(m.fI W x.s).2.steps):=by
  rw[he.2]
  unfold Mc.fI
  have W5:=Ei m x.s.x hf
  have KD:=iR m x.s.x
  by_cases c:x.s.has=true
  ·rw [if_pos c]
   dsimp only
   by_cases c2:(m.bj x.s.x).1.2=true
   ·rw [if_pos c2]
    obtain⟨e1,e2⟩:=xd (m:=(m.bj x.s.x).2) (bD:= [(m.bj x.s.x).1.1]) hw
    refine .inl ⟨e2.trans (W5.1 c2), ?_⟩
    rw[e1,KD.2.2.2.2.2,List.length_append]
    simp only[List.length_cons,List.length_nil];omega
   ·rw [if_neg c2]
    exact .inr ⟨W5.2 (by simpa using c2),by rw[KD.2.2.2.2.2];exact ht⟩
  ·rw [if_neg c]
   obtain⟨e1,e2⟩:=xd (m:=m) (bD:= []) hw
   refine .inl ⟨e2.trans hf, ?_⟩
   dsimp only
   rw[e1,List.length_append]
   simp only[List.length_cons,List.length_nil];omega
 generalize m.fI W x.s=r at *
 rcases key with ⟨k1,k2⟩|⟨k1,k2⟩
 ·rw [if_pos (by rw [k1];rfl)]
  exact KB hL (hs.of he.1) k1 k2
 ·rw [if_neg (by simp only [beq_iff_eq];omega)]
  exact .inr ⟨.inr (.inl k1),k2⟩
theorem aeU {p:Pg} {L:List Im} (hL:CY p L) {tape W:List Int} {m:Mc} {x:Im} (hx:x∈L) (hw:W.contains x.s.id=true) (hs:qm L m) (hf:m.fin=0) (ht:(m.trace.length:Int)+1=m.steps) :
 Ej L (m.do p L tape W x):=by
 have go : ∀ {m1:Mc} {a:Int} {bD:List Int},m1.trace=m.trace→m1.steps=m.steps→m1.st=m.st→m1.fin=0→pO L a→Ej L (a,m1.event W x.s.id bD):=fun {m1 a bD} e1 e2 e3 e4 ha=>by
  obtain⟨g1,g2⟩:=xd (m:=m1) (bD:=bD) hw
  have g3:=fF W m1 x.s.id bD
  refine .inl ⟨g2.trans e4,ha,hs.of (g3.1.trans e3), ?_⟩
  dsimp only
  rw[g1,g3.2.2.2.1,e1,e2,List.length_append]
  simp only[List.length_cons,List.length_nil];omega
 have W5:=Ei m x.s.x hf
 have KD:=iR m x.s.x
 have Bl:=hL.id x hx
 unfold Mc.do
 dsimp only
 split
 ·rename_i c
  have hl:=hL.loop x hx (.inl (by simpa using c))
  exact go rfl rfl rfl hf (hL.next _ (qU (.inr hl) (by omega)))
 split
 ·rename_i c
  exact go rfl rfl rfl hf (.inr (hL.loop x hx (.inr (by simpa using c))))
 split
 ·rename_i c
  obtain⟨f,h1,h2⟩:=hL.uW x hx (by simpa using c)
  rw[h1]
  exact go rfl rfl rfl hf h2
 split
 ·split
  ·exact .inr ⟨.inl rfl,ht⟩
  ·exact go rfl rfl rfl hf (hL.next x hx)
 ·by_cases c2:(m.bj x.s.x).1.2=true
  ·rw [if_pos c2]
   have base:=fun(a:Int) (ha:pO L a)=>go (m1:=(m.bj x.s.x).2) (a:=a) (bD:= [(m.bj x.s.x).1.1]) KD.2.2.2.2.2 KD.2.2.1 KD.1 (W5.1 c2) ha
   have same : ∀ {a:Int} {m1 m2:Mc},Ej L (a,m1)→m2.fin=m1.fin→m2.st=m1.st→m2.trace=m1.trace→m2.steps=m1.steps→Ej L (a,m2):=fun {a m1 m2} h q1 q2 q3 q4=>by
    unfold Ej qm at *
    dsimp only at *
    rw[q1,q2,q3,q4];exact h
   split
   ·exact same (base _ (hL.next x hx)) rfl rfl rfl rfl
   split
   ·exact same (base _ (hL.next x hx)) rfl rfl rfl rfl
   split
   ·refine base _ ?_
    split
    ·exact Gt (hL.aN x hx) (hL.next x hx)
    ·exact Gt (hL.aO x hx) (hL.next x hx)
   split
   ·refine base _ ?_
    split
    ·exact hL.next x hx
    ·exact Gt (hL.aO x hx) (.inr Bl)
   ·exact base _ (hL.next x hx)
  ·rw [if_neg c2]
   exact .inr ⟨.inr (.inl (W5.2 (by simpa using c2))),by dsimp only;rw[KD.2.2.2.2.2,KD.2.2.1];exact ht⟩
theorem KE {p:Pg} {L:List Im} (hL:CY p L) {tape W:List Int} (hW : ∀ x∈L,W.contains x.s.id=true) {fuel a:Int} {m:Mc} (ha:pO L a) (hs:qm L m) (hf:m.fin=0) (ht:(m.trace.length:Int)=m.steps) :
 Told L (m.next p L tape W fuel a):=by
 unfold Mc.next
 by_cases c1:(a == -1)=true
 ·rw[if_pos c1];exact KB hL hs hf ht
 ·rw [if_neg c1]
  by_cases c2:(m.steps==fuel)=true
  ·rw[if_pos c2];exact .inl ⟨.inr rfl,ht⟩
  ·rw [if_neg c2]
   have hx:=qU ha (by simpa using c1)
   have oI:qm L {m with steps:=m.steps+1}:=hs.of rfl
   have CD:((({m with steps:=m.steps+1} : Mc).trace.length:Nat):Int)+1=({m with steps:=m.steps+1} : Mc).steps:=by dsimp only;omega
   dsimp only
   split
   ·exact(W4 hL hx (hW _ hx) oI hf CD).told
   split
   ·exact T2 hL (hW _ hx) oI hf CD
   ·exact(aeU hL hx (hW _ hx) oI hf CD).told
def aas (m:Mc):Prop:=((m.fin=1∨m.fin=2)∧(m.trace.length:Int)=m.steps)∨((m.fin=3∨m.fin=4∨m.fin=5)∧(m.trace.length:Int)+1=m.steps)
theorem QE {p:Pg} {L:List Im} (hL:CY p L) {tape W:List Int} (hW : ∀ x∈L,W.contains x.s.id=true) {fuel:Int} : ∀ (N:Nat) (a:Int) (m m':Mc),pO L a→qm L m→m.fin=0→(m.trace.length:Int)=m.steps→
 Mc.go p L tape W fuel N a m=some m'→aas m'
 | 0,_,_,_,_,_,_,_,h=>by simp[Mc.go]at h
 |N+1,a,m,m',ha,hs,hf,ht,h=>by
  have hn:=KE (fuel:=fuel) (tape:=tape) hL hW ha hs hf ht
  simp only[Mc.go]at h
  split at h
  ·rename_i m1 e;rw[e]at hn;cases h;exact hn
  ·rename_i a1 m1 e;rw[e]at hn;exact QE hL hW N a1 m1 m' hn.1 hn.2.1 hn.2.2.1 hn.2.2.2 h
theorem NO {p:Pg} {L:List Im} (hL:CY p L):pO L ((kM p).open p (p.at jb) [] 0).1∧qm L ((kM p).open p (p.at jb) [] 0).2∧((kM p).open p (p.at jb) [] 0).2.fin=0∧
 ((((kM p).open p (p.at jb) [] 0).2.trace.length:Nat):Int)=((kM p).open p (p.at jb) [] 0).2.steps:=by
 unfold Mc.open
 cases hp:p.procs[(p.at jb).toNat]? with
 |none=>exact⟨.inl rfl,fun fr h=>by simp[kM]at h,rfl,rfl⟩
 |some f=>
  refine⟨hL.ja f (List.mem_of_getElem? hp),fun fr h=>?_,rfl,rfl⟩
  rcases List.mem_cons.1 h with rfl|h
  ·exact .inl rfl
  ·simp[kM]at h
theorem W6 {p:Pg} (hL:CY p p.bb.L) {tape W:List Int} (hW : ∀ x∈p.bb.L,W.contains x.s.id=true) {fuel:Int} {m:Mc} (h:runM p tape W fuel=some m):aas m:=by
 obtain⟨h1,h2,h3,h4⟩:=NO hL
 exact QE hL hW _ _ _ _ h1 h2 h3 h4 h
theorem NP (p:Pg) (L:List Im) (tape W:List Int) {fuel:Int} : ∀ (N:Nat) (a:Int) (m m':Mc),m.steps≤fuel→Mc.go p L tape W fuel N a m=some m'→m'.steps≤fuel
 | 0,_,_,_,_,h=>by simp[Mc.go]at h
 | N+1,a,m,m',hs,h=>by
  simp only[Mc.go]at h
  cases e:m.next p L tape W fuel a with
  | mk o m1=>
   rw[e]at h
   cases o with
   |some a1=>exact NP p L tape W N a1 m1 m' (QC hs e).1 h
   | none=>
    cases h
    unfold Mc.next at e
    have hb : ∀ {m:Mc} {g:Int} {o:Option Int} {m2:Mc},m.back L g=(o,m2)→m2.steps=m.steps:=fun {m g o m2} h=>by
     have:=(NN L m g).2.1
     unfold Mc.back at h
     simp only[Prod.mk.injEq]at h
     rw[← h.2];exact this
    split at e
    ·rw[hb e];exact hs
    split at e
    ·simp only[Prod.mk.injEq,true_and]at e;rw[← e];exact hs
    rename_i fu
    have hD:m.steps<fuel:=by(have:m.steps≠fuel:=by simpa using fu);omega
    dsimp only at e
    split at e
    ·have h1:=(QB p W {m with steps:=m.steps+1} (dZ L a).s).2
     simp only[Prod.mk.injEq]at e
     rw[← e.2,h1];dsimp only;omega
    split at e
    ·have h1:=(B8 W {m with steps:=m.steps+1} (dZ L a).s).2
     split at e
     ·rw[hb e,h1];dsimp only;omega
     ·simp only[Prod.mk.injEq,true_and]at e;rw[← e,h1];dsimp only;omega
    ·have h1:=(T1 p L tape W {m with steps:=m.steps+1} (dZ L a)).2
     simp only[Prod.mk.injEq]at e
     rw[← e.2,h1];dsimp only;omega
def FG (a b t:aK):aK:=if t==a then b else if t==b then a else t
mutual
def Ex.swap (a b:aK):Ex→Ex
 |⟨op,n,name,kids⟩=>⟨op,n,FG a b name,Ex.Ca a b kids⟩
def Ex.Ca (a b:aK):List Ex→List Ex
 | []=> []
 |x::l=>x.swap a b::Ex.Ca a b l
end
def Ar.swap (a b:aK) (x:Ar):Ar:=⟨x.ref,FG a b x.name,x.x.swap a b⟩
mutual
def Sm.swap (a b:aK):Sm→Sm
 |⟨id,kind,labels,name,proc,x,has,args,aO,aN⟩=>⟨id,kind,labels.map (FG a b),FG a b name,FG a b proc,x.swap a b,has,args.map (Ar.swap a b),Sm.Ca a b aO,Sm.Ca a b aN⟩
def Sm.Ca (a b:aK):List Sm→List Sm
 | []=> []
 |s::l=>s.swap a b::Sm.Ca a b l
end
def Pm.swap (a b:aK) (x:Pm):Pm:=⟨FG a b x.name,x.ref⟩
def Pc.swap (a b:aK) (f:Pc):Pc:=⟨FG a b f.name,f.params.map (Pm.swap a b),f.vars.map (FG a b),Sm.Ca a b f.body,f.fin.map (FG a b)⟩
def Pg.swap (a b:aK) (p:Pg):Pg:=⟨p.globals.map (FG a b),p.procs.map (Pc.swap a b)⟩
def It.swap (a b:aK) (i:It):It:=⟨i.s.swap a b,i.deep,i.cW,i.aN⟩
theorem W7 {out:List aK} {x y:aK} : y∈vr out x↔y∈out∨y=x:=by
 unfold vr
 split
 ·rename_i e
  have:=(fx _ _).1 e
  constructor
  ·exact .inl
  ·rintro(h|rfl)<;>assumption
 ·simp
theorem yd {y:aK} : ∀ {l out:List aK},y∈uT out l↔y∈out∨y∈l
 | [],out=>by simp[uT]
 |x::l,out=>by
  simp only[uT,yd (l:=l),W7,List.mem_cons,or_assoc]
theorem NQ (p:Pg) {y:aK} : ∀ (n i:Nat) (out:List aK),y∈out→y∈ox p n i out
 | 0,i,out,h=>h
 |n+1,i,out,h=>by
  simp only[ox]
  split
  ·exact NQ p n _ _ (yd.2 (.inl h))
  ·exact h
theorem NR : ∀ (l out:List aK),∃ e,uT out l=out++e
 | [],out=>⟨[],by simp[uT]⟩
 |x::l,out=>by
  obtain⟨e,h⟩:=NR l (vr out x)
  simp only[uT,h]
  unfold vr
  split
  ·exact⟨e,rfl⟩
  ·exact⟨x::e,by simp⟩
theorem FH {p:Pg} (nq:(p.scope.1==0)=true) : ∀ (n i:Nat) (out:List aK),Good p out→n+i=p.procs.length+1→(∀ (j:Nat) (x:aK),j<i→out[j]? = some x→∀ y∈p9 p x,y∈out)→
 ∀ x∈ox p n i out,∀ y∈p9 p x,y∈ox p n i out
 | 0,i,out,hg,hn,hc,x,hx,y,hy=>by
  simp only[ox]at hx ⊢
  obtain⟨j,hj⟩:=List.getElem?_of_mem hx
  have:=hg.len
  have:=(List.getElem?_eq_some_iff.1 hj).1
  exact hc j x (by omega) hj y hy
 | n+1,i,out,hg,hn,hc,x,hx,y,hy=>by
  simp only[ox]at hx ⊢
  split at hx
  ·rename_i z hz
   obtain⟨g,nT⟩:=hg.2 z (List.mem_of_getElem? hz)
   refine FH nq n (i+1) _ (hg.add fun y m=>?_) (by omega) (fun j x hj hjx y hy=>?_) x hx y hy
   ·unfold p9 at m
    rw[nT]at m
    exact Aj nq (sF nT).1 m
   ·obtain⟨e,he⟩:=NR (p9 p z) out
    have hi:=(List.getElem?_eq_some_iff.1 hz).1
    rw[he,List.getElem?_append_left (by omega)]at hjx
    rcases Nat.lt_or_ge j i with h1|h1
    ·exact yd.2 (.inl (hc j x h1 hjx y hy))
    ·have:j=i:=by omega
     subst this
     rw[hz]at hjx
     cases hjx
     exact yd.2 (.inr hy)
  ·rename_i hz
   obtain⟨j,hj⟩:=List.getElem?_of_mem hx
   have h1:=(List.getElem?_eq_some_iff.1 hj).1
   have h2:=List.getElem?_eq_none_iff.1 hz
   exact hc j x (by omega) hj y hy
theorem Ic {p:Pg} {S:aK→Prop} (hS : ∀ x,S x→∀ y∈p9 p x,S y) : ∀ (n i:Nat) (out:List aK),(∀ x∈out,S x)→∀ x∈ox p n i out,S x
 | 0,i,out,h,x,hx=>h x hx
 | n+1,i,out,h,x,hx=>by
  simp only[ox]at hx
  split at hx
  ·rename_i z hz
   exact Ic hS n _ _ (fun y hy=>(yd.1 hy).elim (h y) (hS z (h z (List.mem_of_getElem? hz)) y)) x hx
  ·exact h x hx
theorem KF {p:Pg} {x:aK} : ∀ {l out:List aK},x∈rm p out l↔x∈out∨(x∈l∧x∈p.globals)
 | [],out=>by simp[rm]
 | v::l,out=>by
  simp only[rm,KF (l:=l),List.mem_cons]
  cases e:fH p.globals v
  ·have:v∉p.globals:=fun m=>by rw [(fx _ _).2 m]at e;cases e
   simp only[Bool.false_eq_true,if_false]
   constructor
   ·rintro(h | ⟨h,k⟩)
    ·exact .inl h
    ·exact .inr ⟨.inr h,k⟩
   ·rintro(h | ⟨rfl | h,k⟩)
    ·exact .inl h
    ·exact absurd k this
    ·exact .inr ⟨h,k⟩
  ·have:v∈p.globals:=(fx _ _).1 e
   simp only[if_true,List.mem_append,List.mem_singleton]
   constructor
   ·rintro((h | rfl) | ⟨h,k⟩)
    ·exact .inl h
    ·exact .inr ⟨.inl rfl,this⟩
    ·exact .inr ⟨.inr h,k⟩
   ·rintro(h | ⟨rfl | h,k⟩)
    ·exact .inl (.inl h)
    ·exact .inl (.inr rfl)
    ·exact .inr ⟨h,k⟩
def sm:List Sm→List aK
 | []=> []
 |v::l=>v.said++sm l
theorem KH {p:Pg} {x:aK} : ∀ {l:List Sm} {out:List aK},x∈rn p out l↔x∈out∨(x∈sm l∧x∈p.globals)
 | [],out=>by simp[rn,sm]
 | v::l,out=>by
  simp only[rn,KH (l:=l),KF,sm,List.mem_append]
  constructor
  ·rintro((h | ⟨h,k⟩) | ⟨h,k⟩)
   ·exact .inl h
   ·exact .inr ⟨.inl h,k⟩
   ·exact .inr ⟨.inr h,k⟩
  ·rintro(h | ⟨h | h,k⟩)
   ·exact .inl (.inl h)
   ·exact .inl (.inr ⟨h,k⟩)
   ·exact .inr ⟨h,k⟩
def Cb (p:Pg):List aK→List aK
 | []=> []
 |n::l=>sm (oY p n)++Cb p l
theorem KI {p:Pg} {x:aK} : ∀ {l:List aK},x∈Cb p l↔∃ n∈l,x∈sm (oY p n)
 | []=>by simp[Cb]
 |n::l=>by simp[Cb,KI (l:=l)]
theorem KK {p:Pg} {x:aK} : ∀ {l out:List aK},x∈si p out l↔x∈out∨(x∈Cb p l∧x∈p.globals)
 | [],out=>by simp[si,Cb]
 | v::l,out=>by
  simp only[si,KK (l:=l),KH,Cb,List.mem_append]
  constructor
  ·rintro((h | ⟨h,k⟩) | ⟨h,k⟩)
   ·exact .inl h
   ·exact .inr ⟨.inl h,k⟩
   ·exact .inr ⟨.inr h,k⟩
  ·rintro(h | ⟨h | h,k⟩)
   ·exact .inl (.inl h)
   ·exact .inl (.inr ⟨h,k⟩)
   ·exact .inr ⟨h,k⟩
theorem KM {p:Pg} {nm x:aK} {f:Pc} (h:p.uU nm=some f):x∈p.nr nm↔(∃ n∈p.work nm,x∈sm (oY p n))∧x∈p.globals:=by
 unfold Pg.nr
 rw[h]
 dsimp only
 rw[(lM _).2]
 unfold Pg.sG
 rw[KK,KI]
 simp only[(lM _).2,List.not_mem_nil,false_or]
set_option maxRecDepth 8000
open Go.Proofs
def nM (nm:aK) (T:List aK) (seen:List aK):List Ar→Bool
 | []=>true
 |a::l=>if a.ref then(if fH seen a.name ||(a.name==nm ||fH T a.name)then false else nM nm T (seen++ [a.name]) l)else nM nm T seen l
def apM (T:List aK) (seen:List aK):List Ar→Bool
 | []=>true
 |a::l=>if a.ref then(if fH seen a.name ||fH T a.name then false else apM T (seen++ [a.name]) l)else apM T seen l
def Sm.auI (v:Sm):List aK:=if v.name != []then [v.name]else []
theorem aat {v:Sm} (sQ:v.args.length<1000000000) {T:List aK} (hT:T.length<4611686018427387904) (s:St) :
 aH Tryz.prog uP [.agg (a8 v), .slice .shared 1 (T.map encStr)] s (.bool (nM v.name T [] v.args)) s:=by
 refine aH.pure ?_ (by simp[D.bF,D.ok,pJ,Tag.ok,fK]) rfl s
 generalize hR:nM v.name T [] v.args=R
 have hcT:=fun x s=>tR hT x s
 unfold S0
 refine aH.go Gi rfl fun B Q hB hQ=>?_
 have⟨hD,gA,gB,gC⟩:=bP
 repeat' (first
 |simp only[go_sem,hD,gA,gB,gC]
 |(with_reducible refine aF hQ ?_;exact aP))
 refine bo.qI 5 1 rfl ?_
 simp only[go_sem,hD,gA,gB,gC]
 refine fz 1 1 (bo.ind (ι:=List Ar×Nat×List aK×Nat) (fun i=>v.args.drop i.2.1=i.1∧nM v.name T i.2.2.1 i.1=R∧i.2.2.1.length≤i.2.1∧i.2.2.2=i.2.2.1.length) (fun i=>i.1.length)
  (fun i=> [(1, .slice .shared 1 (T.map encStr)),(2, .ptr 0 0),(5, .slice (.tok 0) 1 (i.2.2.1.map encStr)),(9, .slice .shared 6 (v.args.map fi)),(10, .int .i64 (v.args.length:Int)),(11, .int .i64 (i.2.1:Int))]) (fun i=>⟨[a8 v],[some i.2.2.2]⟩) ?_ (v.args,0,[],0) ⟨rfl,hR,Nat.le_refl _,rfl⟩)
 clear hR
 rintro⟨rest,k,seen,n'⟩ ⟨h1,h2,h3,h4⟩ IH
 dsimp only at h1 h2 h3 h4
 subst h4
 cases rest with
 |nil=>
  have hD:=drop_nil h1
  simp only[nM]at h2
  subst h2
  repeat' (first
 |simp only[go_sem,hD,gA,gB,gC]
 |(with_reducible refine aF hQ ?_;exact aP))
 | cons a rest=>
  obtain⟨gA,g2,hD,g4⟩:=drop_cons h1
  have cd:k<4611686018427387904:=by omega
  have gB:(seen.length+1)*17≤bp:=by unfold bp;omega
  have pw:=fun g s=>kL (l:=seen) (by omega) a.name g s
  simp only[nM]at h2
  rcases Bool.eq_false_or_eq_true a.ref with c1|c1
  case inr=>
   simp only[c1,Bool.false_eq_true,if_false]at h2
   repeat' (first
 |simp only[go_sem,hD,gA,gB,gC,c1,Bool.not_false]
 | (with_reducible refine aF hQ ?_;exact aP))
   refine eQ 1 1 ?_ ?_ (IH (rest,k+1,seen,_) ⟨g2,h2,by dsimp only;omega,rfl⟩ (Nat.lt_succ_self _))
   ·(simp only[go_sem,hD,gA,gB,gC,aM cd];try exact bQ)
   ·(simp only[go_sem,hD,gA,gB,gC,aM cd];try exact bQ)
  simp only[c1,if_true]at h2
  rcases Bool.eq_false_or_eq_true (fH seen a.name)with c2|c2
  ·simp only [c2,Bool.true_or,if_true]at h2
   subst h2
   repeat' (first
 |simp only[go_sem,hD,gA,gB,gC,c1,c2,Bool.not_true]
 |(with_reducible refine CU (pw _ _) ?_)
 |(with_reducible refine CU (hcT _ _) ?_)
 | (with_reducible refine aF hQ ?_;exact aP))
  rcases Bool.eq_false_or_eq_true (a.name==v.name)with c3|c3
  ·simp only [c2,c3,Bool.false_or,Bool.true_or,if_true]at h2
   subst h2
   repeat' (first
 |simp only[go_sem,hD,gA,gB,gC,c1,c2,c3,Bool.not_true]
 |(with_reducible refine CU (pw _ _) ?_)
 |(with_reducible refine CU (hcT _ _) ?_)
 | (with_reducible refine aF hQ ?_;exact aP))
  rcases Bool.eq_false_or_eq_true (fH T a.name)with c4|c4
  ·simp only [c2,c3,c4,Bool.false_or,if_true]at h2
   subst h2
   repeat' (first
 |simp only[go_sem,hD,gA,gB,gC,c1,c2,c3,c4,Bool.not_true]
 |(with_reducible refine CU (pw _ _) ?_)
 |(with_reducible refine CU (hcT _ _) ?_)
 | (with_reducible refine aF hQ ?_;exact aP))
  ·simp only [c2,c3,c4,Bool.false_or,Bool.false_eq_true,if_false]at h2
   repeat' (first
 |simp only[go_sem,hD,gA,gB,gC,c1,c2,c3,c4,Bool.not_true]
 |(with_reducible refine CU (pw _ _) ?_)
 |(with_reducible refine CU (hcT _ _) ?_)
 | (with_reducible refine aF hQ ?_;exact aP))
   refine eQ 1 1 ?_ ?_ (IH (rest,k+1,seen++ [a.name],seen.length+1) ⟨g2,h2,by simp;omega,by simp⟩ (Nat.lt_succ_self _))
   ·(simp only[go_sem,hD,gA,gB,gC,aM cd,List.map_append,List.map_cons,List.map_nil,encStr];try exact bQ)
   ·(simp only[go_sem,hD,gA,gB,gC,aM cd,List.map_append,List.map_cons,List.map_nil,encStr];try exact bQ)
def oZ (p:Pg):List Pc→List D
 | []=> []
 |f::l=> .str f.name:: .slice .shared 1 ((p.nr f.name).map encStr)::oZ p l
theorem W8 (p:Pg) : ∀ l,D.bF 0 0 (oZ p l)=true
 | []=>rfl
 |f::l=>by simp only[oZ,D.bF,D.ok,Tag.ok,fK,W8 p l];rfl
theorem aeV (n m:Nat) (p:Pg) (l:List Pc):D.iF n m (oZ p l)=oZ p l:=jk n m _ (W8 p l)
attribute [go_sem] aeV
theorem NS (p:Pg) : ∀ l m,oZ p (l++m)=oZ p l++oZ p m
 | [],m=>rfl
 |f::l,m=>by simp only[List.cons_append,oZ,NS p l m]
theorem NT {p:Pg} {nm:aK} {d:D} : ∀ {l:List Pc},nm∉l.map (·.name)→zH nm d (oZ p l)=some (oZ p l++ [.str nm,d])
 | [],_=>rfl
 |f::l,h=>by
  simp only[List.map_cons,List.mem_cons,not_or]at h
  have:(f.name==nm)=false:=by simpa using fun e=>h.1 e.symm
  simp only[oZ,zH,this,Bool.false_eq_true,if_false,NT h.2,List.cons_append]
theorem NU {p:Pg} {nm:aK} {z:D} : ∀ {l:List Pc} {f:Pc},iE nm l=some f→Bq nm z (oZ p l)=some (.slice .shared 1 ((p.nr nm).map encStr))
 | g::l,f,h=>by
  simp only[iE]at h
  simp only[oZ,Bq]
  split at h
  ·rename_i e
   rw[if_pos e,eq_of_beq e]
  ·rename_i e
   rw[if_neg e]
   exact NU h
theorem aeW (l:List aK) : ∀ (s:List aK),rX s l=false→∀ a x b,l=a++x::b→x∉s++a:=by
 induction l with
 |nil=>intro s _ a x b e;cases a<;>cases e
 | cons y l ih=>
  intro s h a x b e
  simp only[rX]at h
  split at h
  ·cases h
  ·rename_i hy
   cases a with
   |nil=>cases e;simpa[← fx]using hy
   |cons z a=>
    cases e
    have:=ih (s++ [y]) h a x b rfl
    simpa using this
end Go.Abs
namespace Go.Abs
set_option maxRecDepth 8000
open Go.Proofs
theorem NV {p:Pg} (h:(p.arity.1==0)=true):(p.scope.1==0)=true∧∀ v∈p.pre,(v.kind==4)=true→v.pN p=true:=by
 unfold Pg.arity at h
 split at h
 ·rename_i e
  refine⟨e,fun v hv hk=>?_⟩
  have : ∀ l:List Sm,((rZ 6 (H0 p l)).1==0)=true→∀ v∈l,(v.kind==4)=true→v.pN p=true:=by
   intro l
   induction l with
   |nil=>intro _ v m;cases m
   | cons a l ih=>
    intro h v m hk
    simp only[H0]at h
    split at h
    ·cases h
    ·rename_i c
     rcases List.mem_cons.1 m with rfl|m
     ·simpa[hk]using c
     ·exact ih h v m hk
  exact this _ h v hv hk
 ·cases h
theorem KN {p:Pg} {v:Sm} (h:v.pN p=true) : ∃ f,p.find v.proc=some f:=by
 unfold Sm.pN at h
 cases e:p.find v.proc with
 |some f=>exact⟨f,rfl⟩
 |none=>rw[e]at h;simp at h
theorem NW : ∀ {l:List It} {n:Nat} {i:It},It.gL n l=true→i∈l→i.s.one=true
 | j::l,n,i,h,m=>by
  simp only[It.gL]at h
  split at h
  ·cases h
  ·rename_i c
   simp only[Bool.or_eq_true,not_or,Bool.not_eq_true',Bool.not_eq_false]at c
   rcases List.mem_cons.1 m with rfl|m
   ·exact c.2
   ·exact NW h m
theorem EX {p:Pg} (h:p.may=true) : ∀ v∈p.pre,v.one=true:=fun v m=>by
 rw[← (x7 h).2,List.mem_map]at m
 obtain⟨i,hi,rfl⟩:=m
 exact NW (Bf h).2 hi
def Sm.uX (p:Pg) (v:Sm):Bool:=nM v.name (p.nr v.proc) [] v.args
def Ie (p:Pg):List Sm→Option Sm
 | []=>none
 |v::l=>if v.kind==4 && !(v.uX p)then some v else Ie p l
def Pg.alias (p:Pg):Int×Int:=if p.arity.1==0 then rZ 8 (Ie p p.pre)else(1,0)
theorem NY {p:Pg} (h:p.jE) (nm:aK):(p.nr nm).length<4611686018427387904:=by
 unfold Pg.nr
 cases hs:p.uU nm with
 |none=>dsimp only;decide
 |some f=>
  obtain⟨nq,hf⟩:=Ee hs
  have h1:=(NH nq hf).len
  have h2:=h.procs
  have h3:=(B5 h (lB (p.work nm)) []).2
  have h4:(lB (p.work nm)).length*1800000≤900000*1800000:=Nat.mul_le_mul_right _ (by omega)
  have h5:(lB (p.sG nm)).length≤(p.sG nm).length:=zn _ _ (xa (lM _).1) fun x m=>((lM _).2 x).1 m
  dsimp only
  unfold Pg.sG at *
  simp only[List.length_nil]at h3
  omega
theorem T3 {v:Sm} (hv:v.oV):v.args.length<1000000000:=by have:=Ar.dr v.args;have:=hv.2.2;omega
theorem W9 {p:Pg} (h:p.jE) (s:St):aH Tryz.prog wq [.agg (bK p)] s (.agg [.int .i64 p.alias.1, .int .i64 p.alias.2]) s:=by
 refine aH.pure ?_ (by simp[D.bF,D.ok,iP]) rfl s
 obtain⟨td,p8,sT⟩:=h.procs
 have rp:=fun s=>NA h s
 have dw:=fun s=>EP (p:=p) (by omega) s
 have hL:=(kW p).1
 have Bg:=qR p
 generalize hR:p.alias=R
 simp only[Pg.alias]at hR
 unfold S0
 have b0:(p.arity.1 != 0) = !(p.arity.1==0):=rfl
 rcases Bool.eq_false_or_eq_true (p.arity.1==0)with b1|b1
 case inr=>
  rw[b1]at b0
  simp only[b1,Bool.false_eq_true,if_false]at hR
  subst hR
  refine aH.go yY rfl fun B Q hB hQ=>?_
  have⟨hD,gA,gB,gC⟩:=bP
  repeat' (first
 |simp only[go_sem,hD,gA,gB,gC,b0,Bool.not_false]
 |(with_reducible refine CU (rp _) ?_)
 |(with_reducible refine aF hQ ?_;exact aP))
 rw[b1]at b0
 obtain⟨nq,kn⟩:=NV b1
 have htw:=(Gp nq).2.1
 simp only[b1,if_true, ← hL]at hR
 refine aH.go yY rfl fun B Q hB hQ=>?_
 have⟨hD,gA,gB,gC⟩:=bP
 repeat' (first
 |simp only[go_sem,hD,gA,gB,gC,b0,Bool.not_true]
 |(with_reducible refine CU (rp _) ?_)
 |(with_reducible refine aF hQ ?_;exact aP))
 refine eQ 3 0 ?_ ?_ (bo.ind (ι:=List Pc×Nat×List Pc) (fun i=>p.procs.drop i.2.1=i.1∧p.procs=i.2.2++i.1) (fun i=>i.1.length)
  (fun i=> [(1, .ptr 0 0),(2, .ptr 1 0),(3, .gW 2),(15, .slice .shared 5 (p.procs.map bJ)),(16, .int .i64 (p.procs.length:Int)),(17, .int .i64 (i.2.1:Int))]) (fun i=>⟨[bK p,[.int .i64 0, .int .i64 0],oZ p i.2.2],[]⟩) ?_ (p.procs,0,[]) ⟨rfl,rfl⟩)
 ·(simp only[go_sem,hD,gA,gB,gC,oZ];try exact bQ)
 ·(simp only[go_sem,hD,gA,gB,gC,oZ];try exact bQ)
 rintro⟨rest,k,done⟩ ⟨h1,h2⟩ IH
 dsimp only at h1 h2
 cases rest with
 | cons a rest=>
  obtain⟨gA,g2,hD,g4⟩:=drop_cons h1
  have cd:k<4611686018427387904:=by omega
  have ur:=fun s=>WW h a.name s
  have hnm:a.name∉done.map (·.name):=by
   have:=aeW _ [] htw (done.map (·.name)) a.name (rest.map (·.name)) (by simp[Pg.pn,h2])
   simpa using this
  have hmp:zH a.name (.slice .shared 1 ((p.nr a.name).map encStr)) (oZ p done)=some (oZ p (done++ [a])):=by
   rw[NT hnm,NS];rfl
  repeat' (first
 |simp only[go_sem,hD,gA,gB,gC,hmp]
 |(with_reducible refine CU (ur _) ?_)
 |(with_reducible refine aF hQ ?_;exact aP))
  refine eQ 3 0 ?_ ?_ (IH (rest,k+1,done++ [a]) ⟨g2,by rw[h2];simp⟩ (Nat.lt_succ_self _))
  ·(simp only[go_sem,hD,gA,gB,gC,aM cd];try exact bQ)
  ·(simp only[go_sem,hD,gA,gB,gC,aM cd];try exact bQ)
 |nil=>
  have hD:=drop_nil h1
  rw[List.append_nil]at h2
  subst h2
  repeat' (first
 |simp only[go_sem,hD,gA,gB,gC,qQ]
 |(with_reducible refine CU (dw _) ?_)
 | (with_reducible refine aF hQ ?_;exact aP))
  refine fz 3 0 (bo.ind (ι:=List Im×Nat) (fun i=>p.bb.L.drop i.2=i.1∧rZ 8 (Ie p (i.1.map Im.s))=R) (fun i=>i.1.length)
   (fun i=> [(1, .ptr 0 0),(2, .ptr 1 0),(3, .gW 2),(33, .slice .shared 17 (p.bb.L.map dM)),(34, .int .i64 (p.bb.L.length:Int)),(35, .int .i64 (i.2:Int))]) (fun i=>⟨[bK p,[.int .i64 0, .int .i64 0],oZ p p.procs],[]⟩) ?_ (p.bb.L,0) ⟨rfl,hR⟩)
  clear hR
  rintro⟨rest,k⟩ ⟨h1,hR⟩ IH
  dsimp only at h1 hR
  cases rest with
  |nil=>
   have hD:=drop_nil h1
   simp only[List.map_nil,Ie,rZ]at hR
   subst hR
   repeat' (first
 |simp only[go_sem,hD,gA,gB,gC]
 | (with_reducible refine aF hQ ?_;exact aP))
  | cons a rest=>
   obtain⟨gA,g2,hD,g4⟩:=drop_cons h1
   have cd:k<4611686018427387904:=by omega
   have CX:a.s∈p.pre:=by rw[← hL];exact List.mem_map_of_mem (List.mem_of_getElem? gA)
   have xu:=fun s=>aat (T3 (h.pre _ CX)) (NY h a.s.proc) s
   simp only[List.map_cons,Ie,Sm.uX]at hR
   rcases Bool.eq_false_or_eq_true (a.s.kind==4)with c1|c1
   ·obtain⟨f,hf⟩:=KN (kn _ CX c1)
    have hmg:=fun z=>NU (p:=p) (z:=z) hf
    rcases Bool.eq_false_or_eq_true (nM a.s.name (p.nr a.s.proc) [] a.s.args)with c2|c2
    ·simp only [c1,c2,Bool.not_true,Bool.and_false,Bool.false_eq_true,if_false]at hR
     repeat' (first
 |simp only[go_sem,hD,gA,gB,gC,c1,c2,hmg]
 |(with_reducible refine CU (xu _) ?_)
 | (with_reducible refine aF hQ ?_;exact aP))
     refine eQ 3 0 ?_ ?_ (IH (rest,k+1) ⟨g2,hR⟩ (Nat.lt_succ_self _))
     ·(simp only[go_sem,hD,gA,gB,gC,aM cd];try exact bQ)
     ·(simp only[go_sem,hD,gA,gB,gC,aM cd];try exact bQ)
    ·simp only [c1,c2,Bool.not_false,Bool.and_true,if_true,rZ]at hR
     subst hR
     repeat' (first
 |simp only[go_sem,hD,gA,gB,gC,c1,c2,hmg]
 |(with_reducible refine CU (xu _) ?_)
 | (with_reducible refine aF hQ ?_;exact aP))
   ·simp only [c1,Bool.false_and,Bool.false_eq_true,if_false]at hR
    repeat' (first
 |simp only[go_sem,hD,gA,gB,gC,c1]
 |(with_reducible refine CU (xu _) ?_)
 | (with_reducible refine aF hQ ?_;exact aP))
    refine eQ 3 0 ?_ ?_ (IH (rest,k+1) ⟨g2,hR⟩ (Nat.lt_succ_self _))
    ·(simp only[go_sem,hD,gA,gB,gC,aM cd];try exact bQ)
    ·(simp only[go_sem,hD,gA,gB,gC,aM cd];try exact bQ)
def Sm.aiF (p:Pg) (v:Sm):Bool:=v.pN p && apM (p.nr v.proc) v.auI v.args
def apF (p:Pg):List Sm→Option Sm
 | []=>none
 |v::l=>if v.kind==4 && !(v.aiF p)then some v else apF p l
def rd0 (l:List rz):Rd:=⟨l,0,0,0,0⟩
def aBv (m:Nat) (text:aK):Option (Pg×Int×Int):=
 if(A9 text).2.1 != 0 then some (pg0,(A9 text).2)
 else(Rd.program m (rd0 (A9 text).1)).bind fun p=>if p.2.code != 0 then some (pg0,p.2.code,p.2.MV)else(p.1.aer).bind fun q=>some (q,0,0)
def aCr (m:Nat) (text:aK):Option (Ex×Int×Int):=
 if(A9 text).2.1 != 0 then some (rA,(A9 text).2)
 else(Rd.whole m (rd0 (A9 text).1)).bind fun x=>x.2.Wh.bind fun b=>
  if b then(x.2.bad 3).bind fun r=>if !r.good then some (rA,r.code,r.MV)else some (x.1,0,0)
  else if !x.2.good then some (rA,x.2.code,x.2.MV)else some (x.1,0,0)
def Al (n k:Int):Int:=if Int.tmod n k<0 then Int.tmod n k+k else Int.tmod n k
theorem aeX (n:Int) {k:Int} (hk:1≤k):0≤Al n k∧Al n k<k:=by
 unfold Al
 have h1:=Int.tmod_lt_of_pos n (by omega:0<k)
 have h2:=Int.lt_tmod_of_pos n (by omega:0<k)
 split<;>omega
theorem amJ (n:Int) {k:Int} (hk:1≤k) (cd:k<1000000) (s:St):aH Tryz.prog BK [.int .i64 n, .int .i64 k] s (.int .i64 (Al n k)) s:=by
 refine aH.pure ?_ rfl rfl s
 have h1:=Int.tmod_lt_of_pos n (by omega:0<k)
 have h2:=Int.lt_tmod_of_pos n (by omega:0<k)
 have c1:decide (k<1)=false:=by simp;omega
 have w1:IntKind.wrap .i64 (Int.tmod n k)=Int.tmod n k:=eB (by omega) (by omega)
 have w2:IntKind.wrap .i64 (Int.tmod n k+k)=Int.tmod n k+k:=eB (by omega) (by omega)
 have k0:(k=0)=False:=by simp;omega
 unfold S0
 by_cases hm:Int.tmod n k<0
 ·have c2:decide (Int.tmod n k<0)=true:=by simp;omega
  rw[show Al n k=Int.tmod n k+k from if_pos hm]
  refine aH.go DT rfl fun B Q hB hQ=>?_
  have⟨hD,gA,gB,gC⟩:=bP
  repeat' (first
 |simp only[go_sem,hD,gA,gB,gC,c1,c2,w1,w2,k0]
 |(with_reducible refine aF hQ ?_;exact aP))
 ·have c2:decide (Int.tmod n k<0)=false:=by simp;omega
  rw[show Al n k=Int.tmod n k from if_neg hm]
  refine aH.go DT rfl fun B Q hB hQ=>?_
  have⟨hD,gA,gB,gC⟩:=bP
  repeat' (first
 |simp only[go_sem,hD,gA,gB,gC,c1,c2,w1,w2,k0]
 |(with_reducible refine aF hQ ?_;exact aP))
def amK (t:aK):Nat→aK
 | 0=> []
 |n+1=>amK t n++t
def two (i:Nat):aK:= [UInt8.ofNat (48+i / 10),UInt8.ofNat (48+i % 10)]
def aiG (ahead:aK):Nat→aK
 | 0=> []
 |n+1=>(if n=0 then aiG ahead n else aiG ahead n++ [44])++(ahead++ [97]++two n)
def aiH:Nat→aK
 | 0=> []
 |n+1=>aiH n++([112,114,111,99,32,112]++two n++ [40,41,123,125])
def kr (k:Int):List It→List Int
 | []=> []
 |i::l=>if k==0 ||i.s.kind==k then i.s.id::kr k l else kr k l
theorem Cc (k:Int) : ∀ l,(kr k l).length≤l.length
 | []=>Nat.le_refl _
 |i::l=>by
  have:=Cc k l
  simp only[kr]
  split<;>simp<;>omega
theorem ac1 {p:Pg} (hs:Pc.aS p.procs<4611686018427387000) (Bg:p.all.length≤1000) (kd:Int) (s:St):aH Tryz.prog w5 [.agg (bK p), .int .i64 kd] s (.slice .shared 1 ((kr kd p.all).map cB)) s:=by
 refine aH.pure ?_ (by simp[D.bF,D.ok,iP]) (by simp only[D.ok,Tag.ok,jr];rfl) s
 have sQ:=fun s=>amD hs s
 obtain⟨R,hR⟩ : ∃ R,kr kd p.all=R:=⟨_,rfl⟩
 rw[hR]
 have hRl:R.length≤1000:=by rw[← hR];exact Nat.le_trans (Cc kd p.all) Bg
 unfold S0
 refine aH.go M7 rfl fun B Q hB hQ=>?_
 have⟨hD,gA,gB,gC⟩:=bP
 repeat' (first
 |simp only[go_sem,hD,gA,gB,gC]
 |(with_reducible refine CU (sQ _) ?_)
 |(with_reducible refine aF hQ ?_;exact aP))
 refine bo.qI 5 1 rfl ?_
 simp only[go_sem,hD,gA,gB,gC]
 refine fz 1 1 (bo.ind (ι:=List It×Nat×List Int×Nat) (fun i=>p.all.drop i.2.1=i.1∧i.2.2.1++kr kd i.1=R∧i.2.2.2=i.2.2.1.length) (fun i=>i.1.length)
  (fun i=> [(1, .int .i64 kd),(2, .ptr 0 0),(5, .slice (.tok 0) 1 (i.2.2.1.map cB)),(9, .slice .shared 16 (p.all.map gx)),(10, .int .i64 (p.all.length:Int)),(11, .int .i64 (i.2.1:Int))]) (fun i=>⟨[bK p],[some i.2.2.2]⟩) ?_ (p.all,0,[],0) ⟨rfl,hR,rfl⟩)
 clear hR
 rintro⟨rest,k,out,n'⟩ ⟨h1,h2,h3⟩ IH
 dsimp only at h1 h2 h3
 subst h3
 have jB:out.length≤1000:=by have:=congrArg List.length h2;rw[List.length_append]at this;omega
 cases rest with
 |nil=>
  have hD:=drop_nil h1
  simp only[kr,List.append_nil]at h2
  subst h2
  repeat' (first
 |simp only[go_sem,hD,gA,gB,gC]
 |(with_reducible refine aF hQ ?_;exact aP))
 | cons a rest=>
  obtain⟨gA,g2,hD,g4⟩:=drop_cons h1
  have cd:k<4611686018427387904:=by omega
  have gB:(out.length+1)*9≤bp:=by unfold bp;omega
  simp only[kr]at h2
  rcases Bool.eq_false_or_eq_true (kd==0)with c1|c1
  ·simp only [c1,Bool.true_or,if_true]at h2
   repeat' (first
 |simp only[go_sem,hD,gA,gB,gC,c1]
 | (with_reducible refine aF hQ ?_;exact aP))
   refine eQ 1 1 ?_ ?_ (IH (rest,k+1,out++ [a.s.id],out.length+1) ⟨g2,by rw[← h2];simp,by simp⟩ (Nat.lt_succ_self _))
   ·(simp only[go_sem,hD,gA,gB,gC,aM cd,List.map_append,List.map_cons,List.map_nil,cB];try exact bQ)
   ·(simp only[go_sem,hD,gA,gB,gC,aM cd,List.map_append,List.map_cons,List.map_nil,cB];try exact bQ)
  rcases Bool.eq_false_or_eq_true (a.s.kind==kd)with c2|c2
  ·simp only [c1,c2,Bool.or_true,if_true]at h2
   repeat' (first
 |simp only[go_sem,hD,gA,gB,gC,c1,c2]
 | (with_reducible refine aF hQ ?_;exact aP))
   refine eQ 1 1 ?_ ?_ (IH (rest,k+1,out++ [a.s.id],out.length+1) ⟨g2,by rw[← h2];simp,by simp⟩ (Nat.lt_succ_self _))
   ·(simp only[go_sem,hD,gA,gB,gC,aM cd,List.map_append,List.map_cons,List.map_nil,cB];try exact bQ)
   ·(simp only[go_sem,hD,gA,gB,gC,aM cd,List.map_append,List.map_cons,List.map_nil,cB];try exact bQ)
  ·simp only [c1,c2,Bool.or_false,Bool.false_eq_true,if_false]at h2
   repeat' (first
 |simp only[go_sem,hD,gA,gB,gC,c1,c2]
 | (with_reducible refine aF hQ ?_;exact aP))
   refine eQ 1 1 ?_ ?_ (IH (rest,k+1,out,_) ⟨g2,h2,rfl⟩ (Nat.lt_succ_self _))
   ·(simp only[go_sem,hD,gA,gB,gC,aM cd];try exact bQ)
   ·(simp only[go_sem,hD,gA,gB,gC,aM cd];try exact bQ)
def pP (l:List Int) (n:Int):Int:=match l[(Al n l.length).toNat]? with|some x=>x|none=>0
theorem aiI {l:List Int} (hl:l.length<1000000) (n:Int) (s:St):aH Tryz.prog zV [.slice .shared 1 (l.map cB), .int .i64 n] s (.int .i64 (pP l n)) s:=by
 refine aH.pure ?_ (by simp[D.bF,D.ok,Tag.ok,jr]) rfl s
 unfold S0
 by_cases hz:l.length=0
 ·have hz':l = []:=List.eq_nil_of_length_eq_zero hz
  have c1:((l.length:Int)==0)=true:=by rw[hz];rfl
  have e:pP l n=0:=by unfold pP;rw[hz'];rfl
  rw[e]
  refine aH.go CN rfl fun B Q hB hQ=>?_
  have⟨hD,gA,gB,gC⟩:=bP
  repeat' (first
 |simp only[go_sem,hD,gA,gB,gC,c1]
 |(with_reducible refine aF hQ ?_;exact aP))
 ·have c1:((l.length:Int)==0)=false:=by simp only [beq_eq_false_iff_ne,ne_eq];omega
  have hk:=aeX n (k:=(l.length:Int)) (by omega)
  have hm:=fun s=>amJ n (k:=(l.length:Int)) (by omega) (by omega) s
  obtain⟨j,hj⟩ : ∃ j:Nat,Al n l.length=(j:Int):=⟨(Al n l.length).toNat,(Int.toNat_of_nonneg hk.1).symm⟩
  have P7:j<l.length:=by have h2:=hk.2;rw[hj]at h2;omega
  obtain⟨f,hf⟩ : ∃ f,l[j]? = some f:=⟨_,List.getElem?_eq_getElem P7⟩
  have e:pP l n=f:=by unfold pP;rw[hj,Int.toNat_natCast,hf]
  rw[hj]at hm
  rw[e]
  have yO:decide ((j:Int)<(l.length:Int))=true:=by simp;omega
  refine aH.go CN rfl fun B Q hB hQ=>?_
  have⟨hD,gA,gB,gC⟩:=bP
  repeat' (first
 |simp only[go_sem,hD,gA,gB,gC,c1,hf,yO,cB]
 |(with_reducible refine CU (hm _) ?_)
 |(with_reducible refine aF hQ ?_;exact aP))
def xe (id:Int):List It→Option It
 | []=>none
 |i::l=>if i.s.id==id then some i else xe id l
def qv (id:Int):List Pc→Option (It×aK)
 | []=>none
 |f::l=>match xe id f.flat with|some i=>some (i,f.name)|none=>qv id l
def it0:It:=⟨J9,0,0,false⟩
def pQ (r:Option (It×aK)):D:=match r with
 |some (i,nm)=> .tuple [.agg (gx i), .str nm, .bool true]
 |none=> .tuple [.agg (gx it0), .str [], .bool false]
theorem aeY (r:Option (It×aK)):D.ok 0 0 (pQ r)=true:=by cases r<;>simp[pQ,D.ok,D.bF,TH]
theorem Ig:gx it0 = [.int .i64 0, .int .i64 0, .slice .shared 1 [], .str [], .str [], .int .i64 0, .int .i64 0, .str [], .slice .shared 4 [], .bool false, .slice .shared 6 [], .slice .shared 13 [], .slice .shared 13 [], .int .i64 0, .int .i64 0, .bool false]:=nd rfl
theorem aiL {p:Pg} (hs:Pc.aS p.procs<4611686018427387000) (hp:p.procs.length<1000000) (id:Int) (s:St):aH Tryz.prog zZ [.agg (bK p), .int .i64 id] s (pQ (qv id p.procs)) s:=by
 refine aH.pure ?_ (by simp[D.bF,D.ok,iP]) (aeY _) s
 obtain⟨R,hR⟩ : ∃ R,qv id p.procs=R:=⟨_,rfl⟩
 rw[hR]
 unfold S0
 refine aH.go Ld rfl fun B Q hB hQ=>?_
 have⟨hD,gA,gB,gC⟩:=bP
 repeat' (first
 |simp only[go_sem,hD,gA,gB,gC]
 |(with_reducible first|refine dU fun hc=>?_|refine dV fun hc=>?_|refine dW (fun hc=>?_) fun hc=>?_)<;>(try simp only[hc,bs,↓reduceIte]at h)<;>try simp only[hc]
 |(with_reducible refine aF hQ ?_;exact aP))
 refine fz 2 0 (bo.ind (ι:=List Pc×Nat) (fun i=>p.procs.drop i.2=i.1∧qv id i.1=R) (fun i=>i.1.length)
  (fun i=> [(1, .int .i64 id),(2, .ptr 0 0),(4, .ptr 1 0),(5, .str []),(6, .bool false),(12, .slice .shared 5 (p.procs.map bJ)),(13, .int .i64 (p.procs.length:Int)),(14, .int .i64 (i.2:Int))]) (fun i=>⟨[bK p,[.int .i64 0, .int .i64 0, .slice .full 0 [], .str [], .str [], .int .i64 0, .int .i64 0, .str [], .slice .full 0 [], .bool false, .slice .full 0 [], .slice .full 0 [], .slice .full 0 [], .int .i64 0, .int .i64 0, .bool false]],[]⟩) ?_ (p.procs,0) ⟨rfl,hR⟩)
 clear hR
 rintro⟨rest,k⟩ ⟨h1,h2⟩ IH
 dsimp only at h1 h2
 cases rest with
 |nil=>
  have hD:=drop_nil h1
  simp only[qv]at h2
  subst h2
  repeat' (first
 |simp only[go_sem,hD,gA,gB,gC,pQ,Ig]
 |(with_reducible first|refine dU fun hc=>?_|refine dV fun hc=>?_|refine dW (fun hc=>?_) fun hc=>?_)<;>(try simp only[hc,bs,↓reduceIte]at h)<;>try simp only[hc]
 |(with_reducible refine aF hQ ?_;simp only[cZ,da,eK,eO,go_sem,hD,gA,gB,gC,pQ,Ig];try exact iI))
 |cons f rest=>
  obtain⟨gA,g2,hD,g4⟩:=drop_cons h1
  have cd:k<4611686018427387904:=by omega
  have ib:=fun s=>Wx (f:=f) (by have:=Pc.cu (List.mem_of_getElem? gA);unfold Pc.size at this;omega) s
  have aCI:=Pc.Nq f
  simp only[qv]at h2
  repeat' (first
 |simp only[go_sem,hD,gA,gB,gC]
 |(with_reducible refine CU (ib _) ?_)
 | (with_reducible refine aF hQ ?_;exact aP))
  refine fz 3 0 (bo.ind (ι:=List It×Nat) (fun i=>f.flat.drop i.2=i.1∧(match xe id i.1 with|some i=>some (i,f.name)|none=>qv id rest)=R) (fun i=>i.1.length)
   (fun i=> [(1, .int .i64 id),(2, .ptr 0 0),(4, .ptr 1 0),(5, .str []),(6, .bool false),(8, .ptr 2 0),(12, .slice .shared 5 (p.procs.map bJ)),(13, .int .i64 (p.procs.length:Int)),(14, .int .i64 (k:Int)),
    (19, .slice .shared 16 (f.flat.map gx)),(20, .int .i64 (f.flat.length:Int)),(21, .int .i64 (i.2:Int))]) (fun i=>⟨[bK p,[.int .i64 0, .int .i64 0, .slice .full 0 [], .str [], .str [], .int .i64 0, .int .i64 0, .str [], .slice .full 0 [], .bool false, .slice .full 0 [], .slice .full 0 [], .slice .full 0 [], .int .i64 0, .int .i64 0, .bool false],bJ f],[]⟩) ?_ (f.flat,0) ⟨rfl,h2⟩)
  clear h2
  rintro⟨sj,k'⟩ ⟨j1,j2⟩ D1
  dsimp only at j1 j2
  cases sj with
  |nil=>
   have NZ:=drop_nil j1
   simp only[xe]at j2
   repeat' (first
 |simp only[go_sem,hD,gA,gB,gC,NZ]
 |(with_reducible first|refine dU fun hc=>?_|refine dV fun hc=>?_|refine dW (fun hc=>?_) fun hc=>?_)<;>(try simp only[hc,bs,↓reduceIte]at h)<;>try simp only[hc]
 | (with_reducible refine aF hQ ?_;simp only [cZ,da,eK,eO,go_sem,hD,gA,gB,gC,NZ];try exact iI))
   refine eQ 2 0 ?_ ?_ (IH (rest,k+1) ⟨g2,j2⟩ (Nat.lt_succ_self _))
   ·(simp only[go_sem,hD,gA,gB,gC,aM cd];try exact bQ)
   ·(simp only[go_sem,hD,gA,gB,gC,aM cd];try exact bQ)
  | cons a sj=>
   obtain⟨oh,j3,vW,j4⟩:=drop_cons j1
   have wR:k'<4611686018427387904:=by omega
   simp only[xe]at j2
   rcases Bool.eq_false_or_eq_true (a.s.id==id)with c1|c1
   ·simp only [c1,if_true]at j2
    subst j2
    repeat' (first
 |simp only[go_sem,hD,gA,gB,gC,oh,vW,c1,pQ,Ig]
 |(with_reducible first|refine dU fun hc=>?_|refine dV fun hc=>?_|refine dW (fun hc=>?_) fun hc=>?_)<;>(try simp only[hc,bs,↓reduceIte]at h)<;>try simp only[hc]
 | (with_reducible refine aF hQ ?_;simp only [cZ,da,eK,eO,go_sem,hD,gA,gB,gC,oh,vW,c1,pQ,Ig];try exact iI))
   ·simp only [c1,Bool.false_eq_true,if_false]at j2
    repeat' (first
 |simp only[go_sem,hD,gA,gB,gC,oh,vW,c1]
 | (with_reducible refine aF hQ ?_;exact aP))
    refine eQ 3 0 ?_ ?_ (D1 (sj,k'+1) ⟨j3,j2⟩ (Nat.lt_succ_self _))
    ·(simp only[go_sem,hD,gA,gB,gC,aM wR];try exact bQ)
    ·(simp only[go_sem,hD,gA,gB,gC,aM wR];try exact bQ)
def Pg.xf (p:Pg) (id:Int):Sm:=match qv id p.procs with|some (i,_)=>i.s|none=>J9
theorem aiM {p:Pg} (hs:Pc.aS p.procs<4611686018427387000) (hp:p.procs.length<1000000) (id:Int) (s:St):aH Tryz.prog zU [.agg (bK p), .int .i64 id] s (.agg (a8 (p.xf id))) s:=by
 refine aH.pure ?_ (by simp[D.bF,D.ok,iP]) (by simp[D.ok,pJ]) s
 have hf:=fun s=>aiL hs hp id s
 unfold Pg.xf
 generalize qv id p.procs=r at hf ⊢
 unfold S0
 cases r with
 |none=>
  simp only[pQ]at hf
  refine aH.go CM rfl fun B Q hB hQ=>?_
  have⟨hD,gA,gB,gC⟩:=bP
  repeat' (first
 |simp only[go_sem,hD,gA,gB,gC,No,it0]
 |(with_reducible refine CU (hf _) ?_)
 |(with_reducible refine aF hQ ?_;exact aP))
 |some x=>
  obtain⟨i,nm⟩:=x
  simp only[pQ]at hf
  refine aH.go CM rfl fun B Q hB hQ=>?_
  have⟨hD,gA,gB,gC⟩:=bP
  repeat' (first
 |simp only[go_sem,hD,gA,gB,gC,No]
 |(with_reducible refine CU (hf _) ?_)
 |(with_reducible refine aF hQ ?_;exact aP))
def dn (t:aK) (n:Int):Int:=if n > 20000 then 20001 else if(t.length:Int)≥20000 - n then 20001 else n+1+t.length
mutual
def fQ:Ex→Int→Int
 |⟨_,_,name,kids⟩,n=>o7 kids (dn name n)
def o7:List Ex→Int→Int
 | [],n=>n
 |x::l,n=>if n≤20000 then o7 l (fQ x n)else n
end
theorem nY {t:aK} {n:Int} (h0:0≤n):dn t n≤20001∧(n≤20000→n+1≤dn t n)∧0≤dn t n∧(dn t n≤20000→n+1+t.length=dn t n):=by
 unfold dn;split
 ·omega
 ·split<;>omega
theorem ye : ∀ (m:Nat) (x:Ex),x.size≤m→∀ n:Int,0≤n→fQ x n≤20001∧(n≤20000→n+1≤fQ x n)∧0≤fQ x n∧(fQ x n≤20000→(x.size:Int)+1≤2*(fQ x n - n)∧x.texts):=by
 intro m
 induction m with
 |zero=>rintro⟨op,v,name,kids⟩ h;simp only[Ex.size]at h;omega
 | succ m ih=>
  rintro⟨op,v,name,kids⟩ h n h0
  simp only[Ex.size]at h
  obtain⟨t1,t2,t3,t4⟩:=nY (t:=name) h0
  have go : ∀ (l:List Ex),Ex.aS l≤m→∀ c:Int,0≤c→c≤20001→o7 l c≤20001∧c≤o7 l c∧(o7 l c≤20000→(Ex.aS l:Int)≤2*(o7 l c - c)∧Ex.xW l):=by
   intro l
   induction l with
   |nil=>intro _ c h0 h1;simp only[o7,Ex.aS];exact⟨h1,Int.le_refl _,fun _=>⟨by omega,trivial⟩⟩
   | cons y l W3=>
    intro hs c h0 h1
    simp only[Ex.aS]at hs ⊢
    simp only[o7]
    split
    ·rename_i hc
     obtain⟨a1,a2,a3,a4⟩:=ih y (by omega) c h0
     obtain⟨b1,b2,b3⟩:=W3 (by omega) (fQ y c) a3 a1
     have:=a2 hc
     refine⟨b1,by omega,fun hw=>?_⟩
     obtain⟨c1,c2⟩:=b3 hw
     obtain⟨d1,d2⟩:=a4 (by omega)
     exact⟨by omega,d2,c2⟩
    ·exact⟨h1,Int.le_refl _,fun hw=>by omega⟩
  obtain⟨g1,g2,g3⟩:=go kids (by omega) (dn name n) t3 t1
  simp only[fQ,Ex.size]
  refine⟨g1,fun hn=>by have:=t2 hn;omega,by omega,fun hw=>?_⟩
  obtain⟨k1,k2⟩:=g3 hw
  have:=t4 (by omega)
  exact⟨by omega,by omega,k2⟩
theorem sI (t:aK) {n:Int} (h0:0≤n) (h1:n≤20001) (s:St):aH Tryz.prog iB [.str t, .int .i64 n] s (.int .i64 (dn t n)) s:=by
 refine aH.pure ?_ rfl rfl s
 unfold S0
 have w1:IntKind.wrap .i64 (20000 - n)=20000 - n:=eB (by omega) (by omega)
 have w2:IntKind.wrap .i64 (n+1)=n+1:=eB (by omega) (by omega)
 by_cases c:n > 20000
 ·have c1:decide (n > 20000)=true:=by simp;omega
  have e:dn t n=20001:=by simp[dn,c]
  rw[e]
  refine aH.go qO rfl fun B Q hB hQ=>?_
  have⟨hD,gA,gB,gC⟩:=bP
  repeat' (first
 |simp only[go_sem,hD,gA,gB,gC,c1,w1,w2]
 |(with_reducible refine aF hQ ?_;exact aP))
 ·have c1:decide (n > 20000)=false:=by simp;omega
  by_cases d:(t.length:Int)≥20000 - n
  ·have d1:decide ((t.length:Int)≥20000 - n)=true:=by simp;omega
   have e:dn t n=20001:=by unfold dn;rw[if_neg c,if_pos d]
   rw[e]
   refine aH.go qO rfl fun B Q hB hQ=>?_
   have⟨hD,gA,gB,gC⟩:=bP
   repeat' (first
 |simp only[go_sem,hD,gA,gB,gC,c1,d1,w1,w2]
 | (with_reducible refine aF hQ ?_;exact aP))
  ·have d1:decide ((t.length:Int)≥20000 - n)=false:=by simp;omega
   have e:dn t n=n+1+t.length:=by unfold dn;rw[if_neg c,if_neg d]
   have w3:IntKind.wrap .i64 (n+1+t.length)=n+1+t.length:=eB (by omega) (by omega)
   rw[e]
   refine aH.go qO rfl fun B Q hB hQ=>?_
   have⟨hD,gA,gB,gC⟩:=bP
   repeat' (first
 |simp only[go_sem,hD,gA,gB,gC,c1,d1,w1,w2,w3]
 |(with_reducible refine aF hQ ?_;exact aP))
theorem N0 : ∀ (m:Nat) (x:Ex),x.size≤m→∀ {n:Int},0≤n→n≤20000→∀ s:St,aH Tryz.prog lj [.agg (bW x), .int .i64 n] s (.int .i64 (fQ x n)) s:=by
 intro m
 induction m with
 |zero=>rintro⟨op,v,name,kids⟩ h;simp only[Ex.size]at h;omega
 |succ m ih=>
  rintro⟨op,v,name,kids⟩ dL n h0 h1 s
  refine aH.pure ?_ (by simp[D.bF,D.ok,lH]) rfl s
  simp only[Ex.size]at dL
  have hk : ∀ y∈kids,∀ {n:Int},0≤n→n≤20000→∀ s:St,aH Tryz.prog lj [.agg (bW y), .int .i64 n] s (.int .i64 (fQ y n)) s:=fun y hy=>ih y (by have:=Ex.cu hy;omega)
  have ht:=fun s=>sI name h0 (by omega) s
  obtain⟨t1,t2,t3,t4⟩:=nY (t:=name) h0
  unfold S0
  generalize h:fQ ⟨op,v,name,kids⟩ n=p
  simp only[fQ]at h
  refine aH.go DU rfl fun B Q hB hQ=>?_
  have⟨hD,gA,gB,gC⟩:=bP
  repeat' (first
 |simp only[go_sem,hD,gA,gB,gC]
 |(with_reducible refine CU (ht _) ?_)
 |(with_reducible first|refine dU fun hc=>?_|refine dV fun hc=>?_|refine dW (fun hc=>?_) fun hc=>?_)<;>(try simp only[hc,bs,↓reduceIte]at h)<;>try simp only[hc]
 | (with_reducible refine aF hQ ?_;exact kC))
  refine fz 1 0 (bo.ind (ι:=List Ex×Nat×Int) (fun i=>kids.drop i.2.1=i.1∧o7 i.1 i.2.2=p∧(i.2.1:Int)≤i.2.2∧i.2.2≤20001) (fun i=>i.1.length)
   (fun i=> [(1, .int .i64 i.2.2),(2, .ptr 0 0),(5, .int .i64 (i.2.1:Int))]) (fun i=>⟨[bW ⟨op,v,name,kids⟩],[]⟩) ?_ (kids,0,dn name n) ⟨rfl,h,t3,t1⟩)
  rintro⟨rest,k,c⟩ ⟨g1,h,g3,g4⟩ IH
  dsimp only at g1 h g3 g4
  cases rest with
  |nil=>
   have hD:=drop_nil g1
   simp only[o7]at h
   repeat' (first
 |simp only[go_sem,hD,gA,gB,gC]
 |(with_reducible first|refine dU fun hc=>?_|refine dV fun hc=>?_|refine dW (fun hc=>?_) fun hc=>?_)<;>(try simp only[hc,bs,↓reduceIte]at h)<;>try simp only[hc]
 | (with_reducible refine aF hQ ?_;exact kC))
  | cons y rest=>
   obtain⟨gA,g2,hD,g5⟩:=drop_cons g1
   simp only[o7]at h
   by_cases hc:c≤20000
   ·have c1:decide (c≤20000)=true:=by simp;omega
    have hy:=fun s=>hk y (List.mem_of_getElem? gA) (n:=c) (by omega) hc s
    obtain⟨a1,a2,a3,a4⟩:=ye _ y (Nat.le_refl _) c (by omega)
    have:=a2 hc
    have w3:IntKind.wrap .i64 ((k:Int)+1)=((k+1:Nat):Int):=by rw[eB]<;>omega
    rw[if_pos hc]at h
    repeat' (first
 |simp only[go_sem,hD,gA,gB,gC,c1,w3]
 |(with_reducible refine CU (hy _) ?_)
 |(with_reducible first|refine dU fun hc=>?_|refine dV fun hc=>?_|refine dW (fun hc=>?_) fun hc=>?_)<;>(try simp only[hc,bs,↓reduceIte]at h)<;>try simp only[hc]
 | (with_reducible refine aF hQ ?_;(try cases h);simp only [cZ,da,eK,eO,go_sem,hD,gA,gB,gC,c1,w3];try exact iI))
    refine fz 1 0 (IH (rest,k+1,fQ y c) ⟨g2,h,by dsimp only;omega,a1⟩ (Nat.lt_succ_self _))
   ·have c1:decide (c≤20000)=false:=by simp;omega
    rw[if_neg hc]at h
    repeat' (first
 |simp only[go_sem,hD,gA,gB,gC,c1]
 |(with_reducible first|refine dU fun hc=>?_|refine dV fun hc=>?_|refine dW (fun hc=>?_) fun hc=>?_)<;>(try simp only[hc,bs,↓reduceIte]at h)<;>try simp only[hc]
 |(with_reducible refine aF hQ ?_;(try cases h);simp only[cZ,da,eK,eO,go_sem,hD,gA,gB,gC,c1];try exact iI))
def eH:List aK→Int→Int
 | [],n=>n
 |t::l,n=>if n≤20000 then eH l (dn t n)else n
def jG:List Ar→Int→Int
 | [],n=>n
 |a::l,n=>if n≤20000 then jG l (dn a.name (fQ a.x n))else n
def lT:List Pm→Int→Int
 | [],n=>n
 |a::l,n=>if n≤20000 then lT l (dn a.name n)else n
mutual
def tY:Sm→Int→Int
 |⟨_,_,labels,name,proc,x,_,args,aO,aN⟩,n=>gE aN (gE aO (jG args (dn proc (dn name (eH labels (fQ x n))))))
def gE:List Sm→Int→Int
 | [],n=>n
 |s::l,n=>if n≤20000 then gE l (tY s n)else n
end
theorem Xb (s:Sm) (n:Int):tY s n=gE s.aN (gE s.aO (jG s.args (dn s.proc (dn s.name (eH s.labels (fQ s.x n)))))):=by cases s;simp only[tY]
def vX (f:Pc) (n:Int):Int:=gE f.body (lT f.params (eH f.fin (eH f.vars (dn f.name n))))
def o8:List Pc→Int→Int
 | [],n=>n
 |f::l,n=>if n≤20000 then o8 l (vX f n)else n
def Pg.EY (p:Pg):Int:=o8 p.procs (eH p.globals 0)
theorem mH : ∀ (l:List aK) {n:Int},0≤n→n≤20001→eH l n≤20001∧n≤eH l n∧(eH l n≤20000→n+l.length≤eH l n∧∀ t∈l,t.length<4611686018427387904)
 | [],n,h0,h1=>by simp only[eH];exact⟨h1,Int.le_refl _,fun _=>⟨by simp,by simp⟩⟩
 | t::l,n,h0,h1=>by
  simp only[eH]
  split
  ·rename_i hc
   obtain⟨a1,a2,a3,a4⟩:=nY (t:=t) h0
   obtain⟨b1,b2,b3⟩:=mH l (n:=dn t n) a3 a1
   have:=a2 hc
   refine⟨b1,by omega,fun hw=>?_⟩
   obtain⟨c1,c2⟩:=b3 hw
   have:=a4 (by omega)
   refine⟨by simp only[List.length_cons];omega,fun s m=>?_⟩
   rcases List.mem_cons.1 m with rfl|m
   ·omega
   ·exact c2 s m
  ·exact⟨h1,Int.le_refl _,fun hw=>by omega⟩
theorem Cd : ∀ (l:List Pm) {n:Int},0≤n→n≤20001→lT l n≤20001∧n≤lT l n∧(lT l n≤20000→n+l.length≤lT l n∧∀ t∈l,t.name.length<4611686018427387904)
 | [],n,h0,h1=>by simp only[lT];exact⟨h1,Int.le_refl _,fun _=>⟨by simp,by simp⟩⟩
 | t::l,n,h0,h1=>by
  simp only[lT]
  split
  ·rename_i hc
   obtain⟨a1,a2,a3,a4⟩:=nY (t:=t.name) h0
   obtain⟨b1,b2,b3⟩:=Cd l (n:=dn t.name n) a3 a1
   have:=a2 hc
   refine⟨b1,by omega,fun hw=>?_⟩
   obtain⟨c1,c2⟩:=b3 hw
   have:=a4 (by omega)
   refine⟨by simp only[List.length_cons];omega,fun s m=>?_⟩
   rcases List.mem_cons.1 m with rfl|m
   ·omega
   ·exact c2 s m
  ·exact⟨h1,Int.le_refl _,fun hw=>by omega⟩
theorem Ce : ∀ (l:List Ar) {n:Int},0≤n→n≤20001→jG l n≤20001∧n≤jG l n∧
 (jG l n≤20000→(Ar.aS l:Int)≤2*(jG l n - n)∧∀ a∈l,a.x.size<4611686018427387904∧a.x.texts∧a.name.length<4611686018427387904)
 | [],n,h0,h1=>by simp only[jG];exact⟨h1,Int.le_refl _,fun _=>⟨by simp[Ar.aS],by simp⟩⟩
 | a::l,n,h0,h1=>by
  simp only[jG]
  split
  ·rename_i hc
   obtain⟨a1,a2,a3,a4⟩:=ye _ a.x (Nat.le_refl _) n h0
   obtain⟨e1,e2,e3,e4⟩:=nY (t:=a.name) a3
   obtain⟨b1,b2,b3⟩:=Ce l (n:=dn a.name (fQ a.x n)) e3 e1
   have:=a2 hc
   have:fQ a.x n≤dn a.name (fQ a.x n):=by
    by_cases h:fQ a.x n≤20000
    ·have:=e2 h;omega
    ·have:dn a.name (fQ a.x n)=20001:=by unfold dn;rw [if_pos (by omega)]
     omega
   refine⟨b1,by omega,fun hw=>?_⟩
   obtain⟨c1,c2⟩:=b3 hw
   have:=e4 (by omega)
   obtain⟨d1,d2⟩:=a4 (by omega)
   refine⟨by simp only[Ar.aS];omega,fun s m=>?_⟩
   rcases List.mem_cons.1 m with rfl|m
   ·exact⟨by omega,d2,by omega⟩
   ·exact c2 s m
  ·exact⟨h1,Int.le_refl _,fun hw=>by omega⟩
theorem mN {t:aK} {n:Int} (h0:0≤n) (h1:n≤20001):n≤dn t n∧dn t n≤20001∧(dn t n≤20000→n+1≤dn t n∧t.length<4611686018427387904):=by
 obtain⟨e1,e2,e3,e4⟩:=nY (t:=t) h0
 by_cases h:n≤20000
 ·have:=e2 h
  exact⟨by omega,e1,fun hw=>⟨by omega,by have:=e4 hw;omega⟩⟩
 ·have:dn t n=20001:=by unfold dn;rw [if_pos (by omega)]
  exact⟨by omega,e1,fun hw=>by omega⟩
mutual
theorem KO : ∀ (s:Sm) {n:Int},0≤n→n≤20000→tY s n≤20001∧n+1≤tY s n∧(tY s n≤20000→(s.size:Int)+1≤2*(tY s n - n)∧s.mD)
 |⟨id,kind,labels,name,proc,x,has,args,aO,aN⟩,n,h0,h1=>by
  obtain⟨a1,a2,a3,a4⟩:=ye _ x (Nat.le_refl _) n h0
  have a2:=a2 h1
  obtain⟨b1,b2,b3⟩:=mH labels a3 a1
  obtain⟨c1,c2,c3⟩:=mN (t:=name) (n:=eH labels (fQ x n)) (by omega) b1
  obtain⟨d1,d2,d3⟩:=mN (t:=proc) (n:=dn name (eH labels (fQ x n))) (by omega) c2
  obtain⟨e1,e2,e3⟩:=Ce args (n:=dn proc (dn name (eH labels (fQ x n)))) (by omega) d2
  obtain⟨f1,f2,f3⟩:=tZ aO (n:=jG args (dn proc (dn name (eH labels (fQ x n))))) (by omega) e1
  obtain⟨g1,g2,g3⟩:=tZ aN (n:=gE aO (jG args (dn proc (dn name (eH labels (fQ x n)))))) (by omega) f1
  simp only[tY,Sm.size]
  refine⟨g1,by omega,fun hw=>?_⟩
  obtain⟨g4,g5⟩:=g3 hw
  obtain⟨f4,f5⟩:=f3 (by omega)
  obtain⟨e4,e5⟩:=e3 (by omega)
  obtain⟨d4,d5⟩:=d3 (by omega)
  obtain⟨c4,c5⟩:=c3 (by omega)
  obtain⟨b4,b5⟩:=b3 (by omega)
  obtain⟨a5,a6⟩:=a4 (by omega)
  have:=Ar.dr args
  refine⟨by omega, ?_⟩
  rw[Gl]
  exact⟨⟨b5,by dsimp only;omega,c5,d5,by dsimp only;omega,a6,by dsimp only;omega,e5⟩,f5,g5⟩
theorem tZ : ∀ (l:List Sm) {n:Int},0≤n→n≤20001→gE l n≤20001∧n≤gE l n∧(gE l n≤20000→(Sm.aS l:Int)≤2*(gE l n - n)∧Sm.gj l)
 | [],n,h0,h1=>by simp only[gE];exact⟨h1,Int.le_refl _,fun _=>⟨by simp[Sm.aS],by simp only[Sm.gj]⟩⟩
 | s::l,n,h0,h1=>by
  simp only[gE]
  split
  ·rename_i hc
   obtain⟨a1,a2,a3⟩:=KO s h0 hc
   obtain⟨b1,b2,b3⟩:=tZ l (n:=tY s n) (by omega) a1
   refine⟨b1,by omega,fun hw=>?_⟩
   obtain⟨c1,c2⟩:=b3 hw
   obtain⟨d1,d2⟩:=a3 (by omega)
   exact⟨by simp only[Sm.aS];omega,d2,c2⟩
  ·exact⟨h1,Int.le_refl _,fun hw=>by omega⟩
end
theorem KP (f:Pc) {n:Int} (h0:0≤n) (h1:n≤20000):vX f n≤20001∧n+1≤vX f n∧(vX f n≤20000→(f.size:Int)+1≤2*(vX f n - n)∧
 (f.name.length<4611686018427387904∧(∀ t∈f.vars,t.length<4611686018427387904)∧(∀ t∈f.fin,t.length<4611686018427387904)∧∀ a∈f.params,a.name.length<4611686018427387904)∧Sm.gj f.body):=by
 obtain⟨c1,c2,c3⟩:=mN (t:=f.name) h0 (by omega:n≤20001)
 have c4:=(nY (t:=f.name) h0).2.1 h1
 obtain⟨d1,d2,d3⟩:=mH f.vars (n:=dn f.name n) (by omega) c2
 obtain⟨e1,e2,e3⟩:=mH f.fin (n:=eH f.vars (dn f.name n)) (by omega) d1
 obtain⟨g1,g2,g3⟩:=Cd f.params (n:=eH f.fin (eH f.vars (dn f.name n))) (by omega) e1
 obtain⟨k1,k2,k3⟩:=tZ f.body (n:=lT f.params (eH f.fin (eH f.vars (dn f.name n)))) (by omega) g1
 unfold vX Pc.size
 refine⟨k1,by omega,fun hw=>?_⟩
 obtain⟨k4,k5⟩:=k3 hw
 obtain⟨g4,g5⟩:=g3 (by omega)
 obtain⟨e4,e5⟩:=e3 (by omega)
 obtain⟨d4,d5⟩:=d3 (by omega)
 obtain⟨_,c5⟩:=c3 (by omega)
 exact⟨by omega,⟨c5,d5,e5,g5⟩,k5⟩
theorem Ih : ∀ (l:List Pc) {n:Int},0≤n→n≤20001→o8 l n≤20001∧n≤o8 l n∧(o8 l n≤20000→(Pc.aS l:Int)≤2*(o8 l n - n)∧∀ f∈l,
 (f.name.length<4611686018427387904∧(∀ t∈f.vars,t.length<4611686018427387904)∧(∀ t∈f.fin,t.length<4611686018427387904)∧∀ a∈f.params,a.name.length<4611686018427387904)∧Sm.gj f.body)
 | [],n,h0,h1=>by simp only[o8];exact⟨h1,Int.le_refl _,fun _=>⟨by simp[Pc.aS],by simp⟩⟩
 | f::l,n,h0,h1=>by
  simp only[o8]
  split
  ·rename_i hc
   obtain⟨a1,a2,a3⟩:=KP f h0 hc
   obtain⟨b1,b2,b3⟩:=Ih l (n:=vX f n) (by omega) a1
   refine⟨b1,by omega,fun hw=>?_⟩
   obtain⟨c1,c2⟩:=b3 hw
   obtain⟨d1,d2⟩:=a3 (by omega)
   refine⟨by simp only[Pc.aS];omega,fun s m=>?_⟩
   rcases List.mem_cons.1 m with rfl|m
   ·exact d2
   ·exact c2 s m
  ·exact⟨h1,Int.le_refl _,fun hw=>by omega⟩
theorem T4 {p:Pg} (h:p.EY≤20000):p.size≤40001∧p.ET:=by
 unfold Pg.EY at h
 obtain⟨a1,a2,a3⟩:=mH p.globals (n:=0) (by omega) (by omega)
 obtain⟨b1,b2,b3⟩:=Ih p.procs (n:=eH p.globals 0) (by omega) a1
 obtain⟨c1,c2⟩:=b3 h
 obtain⟨d1,d2⟩:=a3 (by omega)
 have:p.size≤40001:=by unfold Pg.size;omega
 exact⟨this,by omega,d2,fun f m=>(c2 f m).1,fun f m=>(c2 f m).2⟩
theorem zr {l:List aK} {n:Int} (h0:0≤n) (h1:n≤20001) (s:St):aH Tryz.prog kS [.slice .shared 1 (l.map encStr), .int .i64 n] s (.int .i64 (eH l n)) s:=by
 refine aH.pure ?_ (by simp[D.bF,D.ok,fK,Tag.ok]) rfl s
 unfold S0
 generalize h:eH l n=p
 refine aH.go C3 rfl fun B Q hB hQ=>?_
 have⟨hD,gA,gB,gC⟩:=bP
 repeat' (first
 |simp only[go_sem,hD,gA,gB,gC]
 |(with_reducible refine aF hQ ?_;exact aP))
 refine fz 0 0 (bo.ind (ι:=List aK×Nat×Int) (fun i=>l.drop i.2.1=i.1∧eH i.1 i.2.2=p∧(i.2.1:Int)≤i.2.2∧i.2.2≤20001) (fun i=>i.1.length)
  (fun i=> [(0, .slice .shared 1 (l.map encStr)),(1, .int .i64 i.2.2),(5, .int .i64 (i.2.1:Int))]) (fun i=>⟨[],[]⟩) ?_ (l,0,n) ⟨rfl,h,h0,h1⟩)
 rintro⟨rest,k,c⟩ ⟨g1,h,g3,g4⟩ IH
 dsimp only at g1 h g3 g4
 cases rest with
 |nil=>
  have hD:=drop_nil g1
  simp only[eH]at h
  subst h
  repeat' (first
 |simp only[go_sem,hD,gA,gB,gC]
 |(with_reducible refine aF hQ ?_;exact aP))
 | cons y rest=>
  obtain⟨gA,g2,hD,g5⟩:=drop_cons g1
  simp only[eH]at h
  by_cases hc:c≤20000
  ·have c1:decide (c≤20000)=true:=by simp;omega
   have hy:=fun s=>sI y (n:=c) (by omega) g4 s
   obtain⟨a1,a2,a3,a4⟩:=nY (t:=y) (n:=c) (by omega)
   have:=a2 hc
   have w3:IntKind.wrap .i64 ((k:Int)+1)=((k+1:Nat):Int):=by rw[eB]<;>omega
   rw[if_pos hc]at h
   repeat' (first
 |simp only[go_sem,hD,gA,gB,gC,c1,w3]
 |(with_reducible refine CU (hy _) ?_)
 | (with_reducible refine aF hQ ?_;exact aP))
   refine fz 0 0 (IH (rest,k+1,dn y c) ⟨g2,h,by dsimp only;omega,a1⟩ (Nat.lt_succ_self _))
  ·have c1:decide (c≤20000)=false:=by simp;omega
   rw[if_neg hc]at h
   subst h
   repeat' (first
 |simp only[go_sem,hD,gA,gB,gC,c1]
 |(with_reducible refine aF hQ ?_;exact aP))
theorem Xc : ∀ (m:Nat) (l:List Sm),Sm.aS l≤m→∀ {n:Int},0≤n→n≤20001→∀ s:St,aH Tryz.prog l9 [.slice .shared 13 (l.map a8), .int .i64 n] s (.int .i64 (gE l n)) s:=by
 intro m
 induction m with
 | zero=>
  intro l h n h0 h1 s
  cases l with
  |nil=>
   have z:decide ((0:Int)<0)=false:=rfl
   refine aH.pure ?_ (by simp[D.bF,D.ok,D.jg,Tag.ok]) rfl s
   unfold S0
   simp only[gE]
   refine aH.go uA rfl fun B Q hB hQ=>?_
   have⟨hD,gA,gB,gC⟩:=bP
   repeat' (first
 |simp only[go_sem,hD,gA,gB,gC,z]
 |(with_reducible refine bo.kj ?_)
 |(with_reducible refine aF hQ ?_;exact aP))
  |cons s l=>simp only[Sm.aS]at h;omega
 |succ m ih=>
  intro l h n h0 h1 s
  refine aH.pure ?_ (by simp[D.bF,D.ok,kY,Tag.ok]) rfl s
  unfold S0
  generalize hp:gE l n=p
  refine aH.go uA rfl fun B Q hB hQ=>?_
  have⟨hD,gA,gB,gC⟩:=bP
  repeat' (first
 |simp only[go_sem,hD,gA,gB,gC]
 | (with_reducible refine aF hQ ?_;exact aP))
  refine fz 0 0 (bo.ind (ι:=List Sm×Nat×Int) (fun i=>l.drop i.2.1=i.1∧gE i.1 i.2.2=p∧(i.2.1:Int)≤i.2.2∧i.2.2≤20001) (fun i=>i.1.length)
   (fun i=> [(0, .slice .shared 13 (l.map a8)),(1, .int .i64 i.2.2),(5, .int .i64 (i.2.1:Int))]) (fun i=>⟨[],[]⟩) ?_ (l,0,n) ⟨rfl,hp,h0,h1⟩)
  rintro⟨rest,k,c⟩ ⟨g1,hp,g3,g4⟩ IH
  dsimp only at g1 hp g3 g4
  cases rest with
  |nil=>
   have hD:=drop_nil g1
   simp only[gE]at hp
   subst hp
   repeat' (first
 |simp only[go_sem,hD,gA,gB,gC]
 | (with_reducible refine aF hQ ?_;exact aP))
  | cons y rest=>
   obtain⟨gA,g2,hD,g5⟩:=drop_cons g1
   simp only[gE]at hp
   by_cases hc:c≤20000
   ·have c1:decide (c≤20000)=true:=by simp;omega
    have iO:=List.mem_of_getElem? gA
    have dL:=Sm.cu iO
    have Yo:s.aj.length≤s.aj.length∧Sm.aS y.aO<y.size∧Sm.aS y.aN<y.size:=by cases y;simp only[Sm.size];omega
    have w3:IntKind.wrap .i64 ((k:Int)+1)=((k+1:Nat):Int):=by rw[eB]<;>omega
    rw[if_pos hc]at hp
    obtain⟨a1,a2,a3,a4⟩:=ye _ y.x (Nat.le_refl _) c (by omega)
    have a2:=a2 hc
    obtain⟨b1,b2,b3⟩:=mH y.labels a3 a1
    obtain⟨Ii,c2,c3⟩:=mN (t:=y.name) (n:=eH y.labels (fQ y.x c)) (by omega) b1
    obtain⟨d1,d2,d3⟩:=mN (t:=y.proc) (n:=dn y.name (eH y.labels (fQ y.x c))) (by omega) c2
    have eE:=fun s=>N0 _ y.x (Nat.le_refl _) (n:=c) (by omega) hc s
    have eL:=fun s=>zr (l:=y.labels) (n:=fQ y.x c) (by omega) a1 s
    have eN:=fun s=>sI y.name (n:=eH y.labels (fQ y.x c)) (by omega) b1 s
    have eP:=fun s=>sI y.proc (n:=dn y.name (eH y.labels (fQ y.x c))) (by omega) c2 s
    obtain⟨r1,r2,r3⟩:=KO y (n:=c) (by omega) hc
    rw[Xb]at hp r1 r2
    generalize hC:dn y.proc (dn y.name (eH y.labels (fQ y.x c)))=C at *
    obtain⟨s1,s2,s3⟩:=Ce y.args (n:=C) (by omega) d2
    obtain⟨t1,t2,t3⟩:=tZ y.aO (n:=jG y.args C) (by omega) s1
    have eT:=fun s=>ih y.aO (by omega) (n:=jG y.args C) (by omega) s1 s
    have eS:=fun s=>ih y.aN (by omega) (n:=gE y.aO (jG y.args C)) (by omega) t1 s
    generalize hW:jG y.args C=W at *
    repeat' (first
 |simp only[go_sem,hD,gA,gB,gC,c1,w3]
 |(with_reducible refine CU (eE _) ?_)
 |(with_reducible refine CU (eL _) ?_)
 |(with_reducible refine CU (eN _) ?_)
 |(with_reducible refine CU (eP _) ?_)
 | (with_reducible refine aF hQ ?_;exact aP))
    refine fz 1 0 (bo.ind (ι:=List Ar×Nat×Int) (fun i=>y.args.drop i.2.1=i.1∧jG i.1 i.2.2=W∧(i.2.1:Int)≤i.2.2∧i.2.2≤20001) (fun i=>i.1.length)
     (fun i=> [(0, .slice .shared 13 (l.map a8)),(1, .int .i64 i.2.2),(5, .int .i64 (k:Int)),(6, .ptr 0 0),(7, .int .i64 (i.2.1:Int))]) (fun i=>⟨[a8 y],[]⟩) ?_ (y.args,0,C) ⟨rfl,hW,by dsimp only;omega,d2⟩)
    rintro⟨ars,j,e⟩ ⟨k1,hw,k3,k4⟩ D1
    dsimp only at k1 hw k3 k4
    cases ars with
    |nil=>
     have hD:=drop_nil k1
     simp only[jG]at hw
     subst hw
     repeat' (first
 |simp only[go_sem,hD,gA,gB,gC,w3]
 |(with_reducible refine CU (eT _) ?_)
 |(with_reducible refine CU (eS _) ?_)
 | (with_reducible refine aF hQ ?_;exact aP))
     refine fz 0 0 (IH (rest,k+1,gE y.aN (gE y.aO e)) ⟨g2,hp,by dsimp only;omega,r1⟩ (Nat.lt_succ_self _))
    | cons a ars=>
     obtain⟨gA,k2,hD,k5⟩:=drop_cons k1
     simp only[jG]at hw
     by_cases he:e≤20000
     ·have e1:decide (e≤20000)=true:=by simp;omega
      have w4:IntKind.wrap .i64 ((j:Int)+1)=((j+1:Nat):Int):=by rw[eB]<;>omega
      rw[if_pos he]at hw
      obtain⟨u1,u2,u3,u4⟩:=ye _ a.x (Nat.le_refl _) e (by omega)
      have u2:=u2 he
      obtain⟨v1,v2,v3⟩:=mN (t:=a.name) (n:=fQ a.x e) u3 u1
      have eX:=fun s=>N0 _ a.x (Nat.le_refl _) (n:=e) (by omega) he s
      have eM:=fun s=>sI a.name (n:=fQ a.x e) u3 u1 s
      repeat' (first
 |simp only[go_sem,hD,gA,gB,gC,e1,w4]
 |(with_reducible refine CU (eX _) ?_)
 |(with_reducible refine CU (eM _) ?_)
 |(with_reducible refine aF hQ ?_;exact aP))
      refine fz 1 0 (D1 (ars,j+1,dn a.name (fQ a.x e)) ⟨k2,hw,by dsimp only;omega,v2⟩ (Nat.lt_succ_self _))
     ·have e1:decide (e≤20000)=false:=by simp;omega
      rw[if_neg he]at hw
      subst hw
      repeat' (first
 |simp only[go_sem,hD,gA,gB,gC,e1,w3]
 |(with_reducible refine CU (eT _) ?_)
 |(with_reducible refine CU (eS _) ?_)
 | (with_reducible refine aF hQ ?_;exact aP))
      refine fz 0 0 (IH (rest,k+1,gE y.aN (gE y.aO e)) ⟨g2,hp,by dsimp only;omega,r1⟩ (Nat.lt_succ_self _))
   ·have c1:decide (c≤20000)=false:=by simp;omega
    rw[if_neg hc]at hp
    subst hp
    repeat' (first
 |simp only[go_sem,hD,gA,gB,gC,c1]
 |(with_reducible refine aF hQ ?_;exact aP))
theorem aiQ (p:Pg) (s:St):aH Tryz.prog zT [.agg (bK p)] s (.bool (decide (p.EY≤20000))) s:=by
 refine aH.pure ?_ (by simp only[D.bF,D.ok,iP];rfl) rfl s
 unfold S0
 generalize hp:p.EY=W
 unfold Pg.EY at hp
 obtain⟨a1,a2,a3⟩:=mH p.globals (n:=0) (by omega) (by omega)
 have eG:=fun s=>zr (l:=p.globals) (n:=0) (by omega) (by omega) s
 refine aH.go K9 rfl fun B Q hB hQ=>?_
 have⟨hD,gA,gB,gC⟩:=bP
 repeat' (first
 |simp only[go_sem,hD,gA,gB,gC]
 |(with_reducible refine CU (eG _) ?_)
 |(with_reducible refine aF hQ ?_;exact aP))
 refine fz 1 0 (bo.ind (ι:=List Pc×Nat×Int) (fun i=>p.procs.drop i.2.1=i.1∧o8 i.1 i.2.2=W∧(i.2.1:Int)≤i.2.2∧i.2.2≤20001) (fun i=>i.1.length)
  (fun i=> [(1, .ptr 0 0),(3, .int .i64 i.2.2),(4, .int .i64 (i.2.1:Int))]) (fun i=>⟨[bK p],[]⟩) ?_ (p.procs,0,eH p.globals 0) ⟨rfl,hp,a2,a1⟩)
 rintro⟨rest,k,c⟩ ⟨g1,hp,g3,g4⟩ IH
 dsimp only at g1 hp g3 g4
 cases rest with
 |nil=>
  have hD:=drop_nil g1
  simp only[o8]at hp
  subst hp
  repeat' (first
 |simp only[go_sem,hD,gA,gB,gC]
 |(with_reducible refine aF hQ ?_;exact aP))
 | cons f rest=>
  obtain⟨gA,g2,hD,g5⟩:=drop_cons g1
  simp only[o8]at hp
  by_cases hc:c≤20000
  ·have c1:decide (c≤20000)=true:=by simp;omega
   have w3:IntKind.wrap .i64 ((k:Int)+1)=((k+1:Nat):Int):=by rw[eB]<;>omega
   rw[if_pos hc]at hp
   obtain⟨r1,r2,r3⟩:=KP f (n:=c) (by omega) hc
   unfold vX at hp r1 r2
   obtain⟨Ii,c2,c3⟩:=mN (t:=f.name) (n:=c) (by omega) g4
   obtain⟨d1,d2,d3⟩:=mH f.vars (n:=dn f.name c) (by omega) c2
   obtain⟨e1,e2,e3⟩:=mH f.fin (n:=eH f.vars (dn f.name c)) (by omega) d1
   have eN:=fun s=>sI f.name (n:=c) (by omega) g4 s
   have eV:=fun s=>zr (l:=f.vars) (n:=dn f.name c) (by omega) c2 s
   have eF:=fun s=>zr (l:=f.fin) (n:=eH f.vars (dn f.name c)) (by omega) d1 s
   generalize hC:eH f.fin (eH f.vars (dn f.name c))=C at *
   obtain⟨s1,s2,s3⟩:=Cd f.params (n:=C) (by omega) e1
   have eT:=fun s=>Xc _ f.body (Nat.le_refl _) (n:=lT f.params C) (by omega) s1 s
   generalize hM:lT f.params C=M at *
   repeat' (first
 |simp only[go_sem,hD,gA,gB,gC,c1,w3]
 |(with_reducible refine CU (eN _) ?_)
 |(with_reducible refine CU (eV _) ?_)
 |(with_reducible refine CU (eF _) ?_)
 | (with_reducible refine aF hQ ?_;exact aP))
   refine fz 2 0 (bo.ind (ι:=List Pm×Nat×Int) (fun i=>f.params.drop i.2.1=i.1∧lT i.1 i.2.2=M∧(i.2.1:Int)≤i.2.2∧i.2.2≤20001) (fun i=>i.1.length)
    (fun i=> [(1, .ptr 0 0),(3, .int .i64 i.2.2),(4, .int .i64 (k:Int)),(5, .ptr 1 0),(6, .int .i64 (i.2.1:Int))]) (fun i=>⟨[bK p,bJ f],[]⟩) ?_ (f.params,0,C) ⟨rfl,hM,by dsimp only;omega,e1⟩)
   rintro⟨ms,j,e⟩ ⟨k1,hw,k3,k4⟩ D1
   dsimp only at k1 hw k3 k4
   cases ms with
   |nil=>
    have hD:=drop_nil k1
    simp only[lT]at hw
    subst hw
    repeat' (first
 |simp only[go_sem,hD,gA,gB,gC,w3]
 |(with_reducible refine CU (eT _) ?_)
 | (with_reducible refine aF hQ ?_;exact aP))
    refine fz 1 0 (IH (rest,k+1,gE f.body e) ⟨g2,hp,by dsimp only;omega,r1⟩ (Nat.lt_succ_self _))
   | cons a ms=>
    obtain⟨gA,k2,hD,k5⟩:=drop_cons k1
    simp only[lT]at hw
    by_cases he:e≤20000
    ·have e1:decide (e≤20000)=true:=by simp;omega
     have w4:IntKind.wrap .i64 ((j:Int)+1)=((j+1:Nat):Int):=by rw[eB]<;>omega
     rw[if_pos he]at hw
     obtain⟨v1,v2,v3⟩:=mN (t:=a.name) (n:=e) (by omega) k4
     have v4:=(nY (t:=a.name) (n:=e) (by omega)).2.1 he
     have eM:=fun s=>sI a.name (n:=e) (by omega) k4 s
     repeat' (first
 |simp only[go_sem,hD,gA,gB,gC,e1,w4]
 |(with_reducible refine CU (eM _) ?_)
 | (with_reducible refine aF hQ ?_;exact aP))
     refine fz 2 0 (D1 (ms,j+1,dn a.name e) ⟨k2,hw,by dsimp only;omega,v2⟩ (Nat.lt_succ_self _))
    ·have e1:decide (e≤20000)=false:=by simp;omega
     rw[if_neg he]at hw
     subst hw
     repeat' (first
 |simp only[go_sem,hD,gA,gB,gC,e1,w3]
 |(with_reducible refine CU (eT _) ?_)
 |(with_reducible first|refine dU fun hc=>?_|refine dV fun hc=>?_|refine dW (fun hc=>?_) fun hc=>?_)<;>(try simp only[hc,bs,↓reduceIte]at h)<;>try simp only[hc]
 | (with_reducible refine aF hQ ?_;simp only [cZ,da,eK,eO,go_sem,hD,gA,gB,gC,e1,w3];try exact iI))
     refine fz 1 0 (IH (rest,k+1,gE f.body e) ⟨g2,hp,by dsimp only;omega,r1⟩ (Nat.lt_succ_self _))
  ·have c1:decide (c≤20000)=false:=by simp;omega
   rw[if_neg hc]at hp
   subst hp
   repeat' (first
 |simp only[go_sem,hD,gA,gB,gC,c1]
 |(with_reducible first|refine dU fun hc=>?_|refine dV fun hc=>?_|refine dW (fun hc=>?_) fun hc=>?_)<;>(try simp only[hc,bs,↓reduceIte]at h)<;>try simp only[hc]
 |(with_reducible refine aF hQ ?_;simp only[cZ,da,eK,eO,go_sem,hD,gA,gB,gC,c1];try exact iI))
def aiR:List aK→List aK→Bool
 | [],_=>true
 |_::_,[]=>true
 |x::l,y::l'=>if !(x==y)then false else aiR l l'
def eqT (l l':List aK):Bool:=if(l.length:Int) != (l'.length:Int)then false else aiR l l'
def Ar.rI:List Ar→List Ar→Bool
 | [],_=>true
 |_::_,[]=>true
 |a::l,b::l'=>if !(a.ref==b.ref) || !(a.name==b.name) || !(Ex.beq a.x b.x)then false else Ar.rI l l'
mutual
def Sm.beq:Sm→Sm→Bool
 |⟨id,kind,labels,name,proc,x,has,args,aO,aN⟩,⟨id',amL,aeZ,Tv,xc,x',auM,Hl,aiS,aiT⟩=>
  if id != id' ||kind != amL || !(name==Tv) || !(proc==xc) || !(has==auM) || !(eqT labels aeZ) || !(Ex.beq x x') ||(args.length:Int) != (Hl.length:Int)then false
  else if !(Ar.rI args Hl)then false
  else if(if(aO.length:Int) != (aiS.length:Int)then false else Sm.rI aO aiS)then(if(aN.length:Int) != (aiT.length:Int)then false else Sm.rI aN aiT)else false
def Sm.rI:List Sm→List Sm→Bool
 | [],_=>true
 |_::_,[]=>true
 |s::l,t::l'=>if !(Sm.beq s t)then false else Sm.rI l l'
end
def Sm.auN (l l':List Sm):Bool:=if(l.length:Int) != (l'.length:Int)then false else Sm.rI l l'
def Pm.rI:List Pm→List Pm→Bool
 | [],_=>true
 |_::_,[]=>true
 |a::l,b::l'=>if !((a.name==b.name) && (a.ref==b.ref))then false else Pm.rI l l'
def Pc.rI:List Pc→List Pc→Bool
 | [],_=>true
 |_::_,[]=>true
 |f::l,g::l'=>
  if !(f.name==g.name) ||(f.params.length:Int) != (g.params.length:Int) || !(eqT f.vars g.vars) || !(eqT f.fin g.fin) || !(Sm.auN f.body g.body)then false
  else if !(Pm.rI f.params g.params)then false else Pc.rI l l'
def Pg.beq (p q:Pg):Bool:=if !(eqT p.globals q.globals) ||(p.procs.length:Int) != (q.procs.length:Int)then false else Pc.rI p.procs q.procs
def EZ (n:Int):Ex:=⟨1,n,[],[]⟩
def ub (s:aK):Ex:=⟨2,0,s,[]⟩
def Ij (op:Int) (a b:Ex):Ex:=⟨op,0,[],[a,b]⟩
theorem amM (n:Int) (s:St):aH Tryz.prog tx [.int .i64 n] s (.agg (bW (EZ n))) s:=by
 refine aH.pure ?_ rfl (by simp[D.ok,lH]) s
 unfold S0
 refine aH.go Nb rfl fun B Q hB hQ=>?_
 have⟨hD,gA,gB,gC⟩:=bP
 repeat' (first
 |simp only[go_sem,hD,gA,gB,gC,EZ]
 |(with_reducible first|refine dU fun hc=>?_|refine dV fun hc=>?_|refine dW (fun hc=>?_) fun hc=>?_)<;>(try simp only[hc,bs,↓reduceIte]at h)<;>try simp only[hc]
 |(with_reducible refine aF hQ ?_;simp only[cZ,da,eK,eO,go_sem,hD,gA,gB,gC,EZ];try exact iI))
theorem T5 (t:aK) (s:St):aH Tryz.prog mJ [.str t] s (.agg (bW (ub t))) s:=by
 refine aH.pure ?_ rfl (by simp[D.ok,lH]) s
 unfold S0
 refine aH.go Lg rfl fun B Q hB hQ=>?_
 have⟨hD,gA,gB,gC⟩:=bP
 repeat' (first
 |simp only[go_sem,hD,gA,gB,gC,ub]
 |(with_reducible first|refine dU fun hc=>?_|refine dV fun hc=>?_|refine dW (fun hc=>?_) fun hc=>?_)<;>(try simp only[hc,bs,↓reduceIte]at h)<;>try simp only[hc]
 |(with_reducible refine aF hQ ?_;simp only[cZ,da,eK,eO,go_sem,hD,gA,gB,gC,ub];try exact iI))
theorem Xd (op:Int) (a b:Ex) (s:St):aH Tryz.prog w6 [.int .i64 op, .agg (bW a), .agg (bW b)] s (.agg (bW (Ij op a b))) s:=by
 refine aH.pure ?_ (by simp[D.bF,D.ok,lH]) (by simp[D.ok,lH]) s
 unfold S0
 refine aH.go Nc rfl fun B Q hB hQ=>?_
 have⟨hD,gA,gB,gC⟩:=bP
 repeat' (first
 |simp only[go_sem,hD,gA,gB,gC,Ij]
 |(with_reducible first|refine dU fun hc=>?_|refine dV fun hc=>?_|refine dW (fun hc=>?_) fun hc=>?_)<;>(try simp only[hc,bs,↓reduceIte]at h)<;>try simp only[hc]
 |(with_reducible refine aF hQ ?_;simp only[cZ,da,eK,eO,go_sem,hD,gA,gB,gC,Ij];try exact iI))
def source:aK:= [103,108,111,98,97,108,32,103,59,10,112,114,111,99,32,109,97,105,110,40,41,32,123,10,32,118,97,114,32,118,59,10,32,118,32,61,32,50,59,10,32,103,32,61,32,112,40,51,44,32,114,101,102,32,118,41,59,10,32,112,114,105,110,116,32,118,59,10,32,112,114,105,110,116,32,103,59,10,125,10,112,114,111,99,32,112,40,120,44,32,114,101,102,32,121,41,32,123,10,32,121,32,61,32,121,32,43,32,120,59,10,32,105,102,32,40,121,32,62,32,57,41,32,123,10,32,32,103,111,116,111,32,101,59,10,32,125,10,32,114,101,116,117,114,110,32,121,59,10,101,58,32,125,10]
def uc:Pg:=⟨[[103]],[
 ⟨[109,97,105,110],[],[[118]],[
  ⟨1,1,[],[118],[],EZ 2,false,[],[],[]⟩,
  ⟨2,4,[],[103],[112],rA,false,[⟨false,[],EZ 3⟩,⟨true,[118],rA⟩],[],[]⟩,
  ⟨3,3,[],[],[],ub [118],false,[],[],[]⟩,
  ⟨4,3,[],[],[],ub [103],false,[],[],[]⟩],[]⟩,
 ⟨[112],[⟨[120],false⟩,⟨[121],true⟩],[],[
  ⟨5,1,[],[121],[],Ij 8 (ub [121]) (ub [120]),false,[],[],[]⟩,
  ⟨6,5,[],[],[],Ij 12 (ub [121]) (EZ 9),false,[],[⟨7,10,[],[101],[],rA,false,[],[],[]⟩],[]⟩,
  ⟨8,9,[],[],[],ub [121],true,[],[],[]⟩],[[101]]⟩]⟩
theorem aiU (s:St):aH Tryz.prog zX [] s (.agg (bK uc)) s:=by
 refine aH.pure ?_ rfl (by simp[D.ok,iP]) s
 unfold S0
 refine aH.go Lc rfl fun B Q hB hQ=>?_
 have⟨hD,gA,gB,gC⟩:=bP
 repeat' (first
 |simp only[go_sem,hD,gA,gB,gC,uc]
 |(with_reducible refine CU (amM _ _) ?_)
 |(with_reducible refine CU (T5 _ _) ?_)
 |(with_reducible refine CU (Xd _ _ _ _) ?_)
 |(with_reducible refine aF hQ ?_;simp only[cZ,da,eK,eO,go_sem,hD,gA,gB,gC];repeat' (first|exact Ok.out|with_reducible refine jD ?_ ?_|(simp;done))))
 repeat' (first|exact Ok.out|with_reducible refine Wk.agg ?_|with_reducible refine Wk.rows ?_|with_reducible refine Wk.slice ?_|with_reducible refine iu.cons ?_ ?_|with_reducible refine kv.cons ?_ ?_)
def Pg.aBz (p:Pg) (n:Int):aK:=match p.procs[(Al n p.procs.length).toNat]? with|some f=>f.name|none=> []
theorem Ik {id:Int} : ∀ {l:List It},xe id l=none→∀ i∈l,i.s.id≠id
 | a::l,h,i,m=>by
  simp only[xe]at h
  split at h
  ·cases h
  ·rename_i c
   rcases List.mem_cons.1 m with rfl|m
   ·simpa using c
   ·exact Ik h i m
theorem Il {id:Int} {i:It} : ∀ {l:List It},xe id l=some i→i∈l∧i.s.id=id
 | a::l,h=>by
  simp only[xe]at h
  split at h
  ·rename_i c
   cases h
   exact⟨List.mem_cons_self ..,eq_of_beq c⟩
  ·obtain⟨h1,h2⟩:=Il h
   exact⟨List.mem_cons_of_mem _ h1,h2⟩
theorem Io {id:Int} {r:It×aK} : ∀ {l:List Pc},qv id l=some r→∃ f∈l,r.1∈f.flat∧r.1.s.id=id∧r.2=f.name
 | f::l,h=>by
  simp only[qv]at h
  split at h
  ·rename_i i e
   cases h
   obtain⟨h1,h2⟩:=Il e
   exact⟨f,List.mem_cons_self ..,h1,h2,rfl⟩
  ·obtain⟨g,h1,h2⟩:=Io h
   exact⟨g,List.mem_cons_of_mem _ h1,h2⟩
theorem Ip {id:Int} : ∀ {l:List Pc},qv id l=none→∀ f∈l,∀ i∈f.flat,i.s.id≠id
 | f::l,h,g,m,i,hi=>by
  simp only[qv]at h
  split at h
  ·cases h
  ·rename_i e
   rcases List.mem_cons.1 m with rfl|m
   ·exact Ik e i hi
   ·exact Ip h g m i hi
theorem aau {p:Pg} (hb:p.may=true) {id:Int} (h : ∃ v∈p.pre,v.id=id):p.xf id∈p.pre∧(p.xf id).id=id:=by
 obtain⟨v,hv,Bl⟩:=h
 have ib:=(x7 hb).1
 unfold Pg.xf
 cases e:qv id p.procs with
 |some r=>
  obtain⟨f,h1,h2,h3,_⟩:=Io e
  refine⟨?_,h3⟩
  simp only[Pg.pre,List.mem_flatten,List.mem_map]
  exact⟨_,⟨f,h1,rfl⟩,by rw[← ib f h1];exact List.mem_map_of_mem h2⟩
 |none=>
  simp only[Pg.pre,List.mem_flatten,List.mem_map]at hv
  obtain⟨l,⟨f,hf,rfl⟩,m⟩:=hv
  rw[← ib f hf,List.mem_map]at m
  obtain⟨i,hi,rfl⟩:=m
  exact absurd Bl (Ip e f hf i hi)
theorem Gu {k:Int} {x:Int} : ∀ {l:List It},x∈kr k l↔∃ i∈l,(k==0 ||i.s.kind==k)=true∧i.s.id=x
 | []=>by simp[kr]
 | a::l=>by
  simp only[kr]
  split
  ·rename_i c
   simp only[List.mem_cons,Gu (l:=l),exists_eq_or_imp,c,true_and]
   exact or_congr_left ⟨Eq.symm,Eq.symm⟩
  ·rename_i c
   have c':(k==0 ||a.s.kind==k)=false:=by simpa using c
   simp only[List.mem_cons,Gu (l:=l),exists_eq_or_imp,c',Bool.false_eq_true,false_and,false_or]
theorem Xe {l:List Int} {n:Int} (h:pP l n≠0):pP l n∈l:=by
 unfold pP at *
 split
 ·rename_i x e;exact List.mem_of_getElem? e
 ·rename_i e;rw[e]at h;exact absurd rfl h
theorem aav {p:Pg} (h:(p.arity.1==0)=true) (h2:(p.alias.1==0)=true) : ∀ v∈p.pre,(v.kind==4)=true→v.uX p=true:=by
 unfold Pg.alias at h2
 rw[if_pos h]at h2
 intro v hv hk
 have : ∀ l:List Sm,((rZ 8 (Ie p l)).1==0)=true→∀ v∈l,(v.kind==4)=true→v.uX p=true:=by
  intro l
  induction l with
  |nil=>intro _ v m;cases m
  | cons a l ih=>
   intro h v m hk
   simp only[Ie]at h
   split at h
   ·cases h
   ·rename_i c
    rcases List.mem_cons.1 m with rfl|m
    ·simpa[hk]using c
    ·exact ih h v m hk
 exact this _ h2 v hv hk
theorem N1 {p:Pg} : ∀ {l:List Sm},(∀ v∈l,(v.kind==4)=true→v.uX p=true)→Ie p l=none
 | [],_=>rfl
 |v::l,h=>by
  simp only[Ie]
  rw[if_neg,N1 fun w m=>h w (List.mem_cons_of_mem _ m)]
  intro c
  simp only[Bool.and_eq_true,Bool.not_eq_true']at c
  rw[h v (List.mem_cons_self ..) c.1]at c
  exact absurd c.2 (by simp)
section
variable {a b:aK}
end
section
variable {a b:aK} (ha:isName a=true) (hb:isName b=true)
include ha hb
end
def Pg.check (p:Pg):Int×Int:=if p.scope.1==0 then(if p.arity.1==0 then(if p.jump.1==0 then p.alias else p.jump)else p.arity)else p.scope
end Go.Abs
namespace Go.Abs
mutual
def Sm.fS (g:Sm→Sm):Sm→Sm
 |⟨id,kind,labels,name,proc,x,has,args,aO,aN⟩=> {g ⟨id,kind,labels,name,proc,x,has,args,aO,aN⟩with aO:=Sm.lU g aO,aN:=Sm.lU g aN}
def Sm.lU (g:Sm→Sm):List Sm→List Sm
 | []=> []
 |s::l=>s.fS g::Sm.lU g l
end
def It.fS (g:Sm→Sm) (i:It):It:= {i with s:=i.s.fS g}
def Pc.fS (g:Sm→Sm) (f:Pc):Pc:= {f with body:=Sm.lU g f.body}
def Pg.fS (g:Sm→Sm) (p:Pg):Pg:= {p with procs:=p.procs.map (Pc.fS g)}
theorem ae0 (g:Sm→Sm) (s:Sm):s.fS g = {g s with aO:=Sm.lU g s.aO,aN:=Sm.lU g s.aN}:=by cases s;rfl
def fD (t:Sm) (v:Sm):Sm:=if v.id==t.id then t else v
theorem N2 {p:Pg} {f:Pc} {procs:List aK} : ∀ {l:List Sm},(∀ v∈l,v.known p f procs=true)→Ae p f procs l=none
 | [],_=>rfl
 |v::l,h=>by
  simp only[Ae,h v (List.mem_cons_self ..),if_true]
  exact N2 fun w m=>h w (List.mem_cons_of_mem _ m)
theorem Iq {p:Pg} {procs:List aK} : ∀ {l:List Pc},(∀ f∈l,ff (p.globals++f.own)=false∧∀ v∈Sm.bH f.body,v.known p f procs=true)→tU p procs l=(0,0)
 | [],_=>rfl
 |f::l,h=>by
  obtain⟨h1,h2⟩:=h f (List.mem_cons_self ..)
  simp only[tU,h1,Bool.false_eq_true,if_false,N2 h2]
  exact Iq fun w m=>h w (List.mem_cons_of_mem _ m)
theorem KQ {p:Pg} (hm:p.may=true) (h1:ff p.globals=false) (h2:ff p.pn=false) (h3:p.oW=false) (h4 : ∀ f∈p.procs,ff (p.globals++f.own)=false∧∀ v∈Sm.bH f.body,v.known p f p.pn=true):p.scope=(0,0):=by
 unfold Pg.scope
 rw[if_pos hm,h1,h2,h3]
 exact Iq h4
theorem QF {p:Pg} : ∀ {l:List Sm},(∀ v∈l,(v.kind==4)=true→v.pN p=true)→H0 p l=none
 | [],_=>rfl
 |v::l,h=>by
  simp only[H0]
  rw[if_neg,QF fun w m=>h w (List.mem_cons_of_mem _ m)]
  intro c
  simp only[Bool.and_eq_true,Bool.not_eq_true']at c
  rw[h v (List.mem_cons_self ..) c.1]at c
  exact absurd c.2 (by simp)
theorem Xf {p:Pg} (hs:(p.scope.1==0)=true) (h : ∀ v∈p.pre,(v.kind==4)=true→v.pN p=true):p.arity=(0,0):=by
 unfold Pg.arity
 rw[if_pos hs,QF h]
 rfl
theorem Ir {ln fin:List aK} : ∀ {l:List (Sm×Int)} {seen:List aK},vu ln fin seen l=none↔rX seen (dK (l.map Prod.fst)++fin)=false∧∀ q∈l,kl ln q.1 q.2=true
 | [],seen=>by
  simp only[vu,List.map_nil,dK,List.nil_append,List.not_mem_nil,false_imp_iff,implies_true,and_true]
  rw[Eh]
  cases rX seen fin<;>simp
 | (v,lp)::l,seen=>by
  simp only[vu,List.map_cons,dK,List.append_assoc]
  rw[Eh,Qy v.labels]
  cases h:rX seen v.labels
  ·simp only [Bool.false_eq_true,if_false,if_true,Bool.false_or]
   cases h2:kl ln v lp
   ·simp only [Bool.false_eq_true,if_false,reduceCtorEq,false_iff,not_and]
    intro _ h3
    have:=h3 (v,lp) (List.mem_cons_self ..)
    rw[h2]at this;cases this
   ·simp only [if_true,Ir (l:=l),List.mem_cons]
    constructor
    ·rintro⟨h3,h4⟩
     refine⟨h3,fun q hq=>?_⟩
     rcases hq with rfl|hq
     ·exact h2
     ·exact h4 q hq
    ·rintro⟨h3,h4⟩
     exact⟨h3,fun q hq=>h4 q (.inr hq)⟩
  ·simp
theorem Cf : ∀ {l:List Pc},vv l=none↔∀ f∈l,ff f.labels=false∧∀ q∈f.sk,kl f.labels q.1 q.2=true
 | []=>by simp[vv]
 | f::l=>by
  have e:vu f.labels f.fin [] f.sk=none↔ff f.labels=false∧∀ q∈f.sk,kl f.labels q.1 q.2=true:=by
   rw[Ir,aeS];rfl
  simp only[vv,List.mem_cons]
  split
  ·rename_i id h
   simp only[reduceCtorEq,false_iff]
   intro h3
   rw[e.2 (h3 f (.inl rfl))]at h
   cases h
  ·rename_i h
   rw[Cf (l:=l)]
   constructor
   ·intro h3 g hg
    rcases hg with rfl|hg
    ·exact e.1 h
    ·exact h3 g hg
   ·exact fun h3 g hg=>h3 g (.inr hg)
structure Pg.Right (p:Pg):Prop where
 may:p.may=true
 tg:ff p.globals=false
 tp:ff p.pn=false
 main:p.oW=false
 own : ∀ f∈p.procs,ff (p.globals++f.own)=false
 known : ∀ f∈p.procs,∀ v∈Sm.bH f.body,v.known p f p.pn=true
 ln : ∀ f∈p.procs,ff f.labels=false
 leads : ∀ f∈p.procs,∀ q∈f.sk,kl f.labels q.1 q.2=true
 fits : ∀ v∈p.pre,(v.kind==4)=true→v.pN p=true
 single : ∀ v∈p.pre,(v.kind==4)=true→v.uX p=true
theorem Pg.Right.scope {p:Pg} (h:p.Right):p.scope=(0,0):=KQ h.may h.tg h.tp h.main fun f hf=>⟨h.own f hf,h.known f hf⟩
theorem Pg.Right.arity {p:Pg} (h:p.Right):p.arity=(0,0):=Xf (by rw[h.scope];rfl) h.fits
theorem Pg.Right.jump {p:Pg} (h:p.Right):p.jump=(0,0):=by
 unfold Pg.jump
 rw[h.scope,Cf.2 fun f hf=>⟨h.ln f hf,h.leads f hf⟩]
 rfl
theorem Pg.Right.alias {p:Pg} (h:p.Right):p.alias=(0,0):=by
 unfold Pg.alias
 rw[h.arity,N1 h.single]
 rfl
theorem Pg.Right.check {p:Pg} (h:p.Right):p.check=(0,0):=by
 unfold Pg.check
 rw[h.scope,h.arity,h.jump,h.alias]
 rfl
theorem Gv {p:Pg} (h:(p.check.1==0)=true):p.Right:=by
 unfold Pg.check at h
 by_cases h1:(p.scope.1==0)=true
 ·rw [if_pos h1]at h
  by_cases h2:(p.arity.1==0)=true
  ·rw [if_pos h2]at h
   by_cases h3:(p.jump.1==0)=true
   ·rw [if_pos h3]at h
    obtain⟨k1,k2,k3,k4⟩:=Gp h1
    have hj:vv p.procs=none:=by
     unfold Pg.jump at h3
     rw[if_pos h1]at h3
     cases e:vv p.procs with
     |none=>rfl
     |some id=>rw[e]at h3;cases h3
    rw[Cf]at hj
    exact⟨D6 h1,k1,k2,k3,fun f hf=>(k4 f hf).1,fun f hf=>(k4 f hf).2,fun f hf=>(hj f hf).1,fun f hf=>(hj f hf).2,(NV h2).2,aav h2 h⟩
   ·rw[if_neg h3]at h;exact absurd h h3
  ·rw[if_neg h2]at h;exact absurd h h2
 ·rw[if_neg h1]at h;exact absurd h h1
def AtR (R:Int→Prop) (a:Int):Prop:=a = -1∨R a
theorem E0 {R:Int→Prop} {l:List Sm} {o:Int} (h : ∀ v∈Sm.bH l,R v.id) (ho:AtR R o):AtR R (dA l o):=by
 cases l with
 |nil=>exact ho
 |cons s l=>exact .inr (h s (by rw[Sm.bH,Sm.np];exact List.mem_append_left _ (List.mem_cons_self ..)))
mutual
theorem aiV {R:Int→Prop} (proc up next loop:Int) : ∀ s:Sm,(∀ v∈s.pre,R v.id)→AtR R next→(loop=0∨R loop)→
 ∀ x∈s.tW proc up next loop,x.proc=proc∧AtR R x.next∧(x.loop=0∨R x.loop)∧AtR R (dA x.s.aO (-1))∧AtR R (dA x.s.aN (-1))∧x.s∈s.pre
 | ⟨id,kind,labels,name,pc,x,has,args,aO,aN⟩,h,hn,hl,y,m=>by
  have q9:=h _ (by rw[Sm.np];exact List.mem_cons_self ..)
  have h1 : ∀ v∈Sm.bH aO,R v.id:=fun v m=>h v (by rw[Sm.np];exact List.mem_cons_of_mem _ (List.mem_append_left _ m))
  have h2 : ∀ v∈Sm.bH aN,R v.id:=fun v m=>h v (by rw[Sm.np];exact List.mem_cons_of_mem _ (List.mem_append_right _ m))
  have rr:AtR R (if kind==6 then id else next):=by split;exact .inr q9;exact hn
  have mZ:(if kind==6 then id else loop)=0∨R (if kind==6 then id else loop):=by split;exact .inr q9;exact hl
  rw[Sm.np]
  simp only[Sm.tW,List.mem_cons,List.mem_append]at m
  rcases m with rfl|m|m
  ·exact⟨rfl,hn,hl,E0 h1 (.inl rfl),E0 h2 (.inl rfl),List.mem_cons_self ..⟩
  ·obtain⟨g1,g2,g3,g4,g5,g6⟩:=xk proc id _ _ aO h1 rr mZ y m
   exact⟨g1,g2,g3,g4,g5,List.mem_cons_of_mem _ (List.mem_append_left _ g6)⟩
  ·obtain⟨g1,g2,g3,g4,g5,g6⟩:=xk proc id _ _ aN h2 rr mZ y m
   exact⟨g1,g2,g3,g4,g5,List.mem_cons_of_mem _ (List.mem_append_right _ g6)⟩
theorem xk {R:Int→Prop} (proc up next loop:Int) : ∀ l:List Sm,(∀ v∈Sm.bH l,R v.id)→AtR R next→(loop=0∨R loop)→
 ∀ x∈Sm.fJ proc up next loop l,x.proc=proc∧AtR R x.next∧(x.loop=0∨R x.loop)∧AtR R (dA x.s.aO (-1))∧AtR R (dA x.s.aN (-1))∧x.s∈Sm.bH l
 | [],_,_,_,x,m=>by simp[Sm.fJ]at m
 | s::l,h,hn,hl,x,m=>by
  simp only[Sm.bH,List.mem_append]at h
  simp only[Sm.fJ,List.mem_append]at m
  simp only[Sm.bH,List.mem_append]
  rcases m with m|m
  ·obtain⟨g1,g2,g3,g4,g5,g6⟩:=aiV proc up _ loop s (fun v m=>h v (.inl m)) (E0 (fun v m=>h v (.inr m)) hn) hl x m
   exact⟨g1,g2,g3,g4,g5, .inl g6⟩
  ·obtain⟨g1,g2,g3,g4,g5,g6⟩:=xk proc up next loop l (fun v m=>h v (.inr m)) hn hl x m
   exact⟨g1,g2,g3,g4,g5, .inr g6⟩
end
theorem Gw {x:Im} : ∀ (l:List Pc) (k:Nat),x∈rN k l→∃ i f,l[i]? = some f∧x∈Sm.fJ ((k+i:Nat):Int) 0 (-1) 0 f.body
 | [],_,h=>by simp[rN]at h
 | f::l,k,h=>by
  simp only[rN,List.mem_append]at h
  rcases h with h|h
  ·exact⟨0,f,rfl,h⟩
  ·obtain⟨i,g,h1,h2⟩:=Gw l (k+1) h
   exact⟨i+1,g,by simpa using h1,by rw[show k+(i+1)=k+1+i by omega];exact h2⟩
theorem Gx {x:Im} : ∀ (l:List Pc) (k:Nat) {i:Nat} {f:Pc},l[i]? = some f→x∈Sm.fJ ((k+i:Nat):Int) 0 (-1) 0 f.body→x∈rN k l
 |f::l,k,0,g,h,m=>by simp at h;subst h;exact List.mem_append_left _ m
 |f::l,k,i+1,g,h,m=>List.mem_append_right _ (Gx l (k+1) (i:=i) (by simpa using h) (by rw[show k+1+i=k+(i+1) by omega];exact m))
theorem Xg : ∀ (l:List Pc) (k:Nat),(rN k l).map Im.s=(l.map fun f=>Sm.bH f.body).flatten
 | [],_=>rfl
 |f::l,k=>by simp only[rN,List.map_append,tX,Xg l,List.map_cons,List.flatten_cons]
theorem QG {R:Int→Prop} {fin:List aK} {lL:aK} : ∀ {l:List Sm},(∀ v∈l,R v.id)→(gP fin lL l).2=true→AtR R (gP fin lL l).1
 | [],_,h=>by
  simp only[gP]at h ⊢
  split at h
  ·rename_i c;rw[if_pos c];exact .inl rfl
  ·cases h
 | v::l,hv,h=>by
  simp only[gP]at h ⊢
  split
  ·exact .inr (hv v (List.mem_cons_self ..))
  ·rename_i c
   rw[if_neg c]at h
   exact QG (fun w m=>hv w (List.mem_cons_of_mem _ m)) h
def Hm (L:List Im) (k:Int) (a:Int):Prop:=1≤a∧a≤(L.length:Int)∧(dZ L a).proc=k
structure Cg (p:Pg) (L:List Im) (x:Im) (f:Pc):Prop where
 self:dZ L x.s.id=x∧1≤x.s.id∧x.s.id≤(L.length:Int)
 proc:p.procs[x.proc.toNat]? = some f∧0≤x.proc
 mem:x.s∈Sm.bH f.body
 next:AtR (Hm L x.proc) x.next
 loop:x.s.kind=7∨x.s.kind=8→Hm L x.proc x.loop
 aO:AtR (Hm L x.proc) (dA x.s.aO (-1))
 aN:AtR (Hm L x.proc) (dA x.s.aN (-1))
 uW:x.s.kind=10→AtR (Hm L x.proc) (gP f.fin x.s.name (Sm.bH f.body)).1
structure Xh (p:Pg) (L:List Im):Prop where
 im : ∀ x∈L,∃ f,Cg p L x f
 head : ∀ (i:Nat) (f:Pc),p.procs[i]? = some f→AtR (Hm L i) (dA f.body (-1))
theorem pB {p:Pg} (h:p.Right):Xh p p.bb.L:=by
 have hL:=Eg h.may
 have hs:p.bb.L.map Im.s=p.pre:=by rw[hL,Xg];rfl
 have hlen:p.bb.L.length=p.pre.length:=by rw[← hs,List.length_map]
 have self : ∀ x∈p.bb.L,dZ p.bb.L x.s.id=x∧1≤x.s.id∧x.s.id≤(p.bb.L.length:Int):=fun x m=>by
  obtain⟨i,hi⟩:=List.getElem?_of_mem m
  have h1:=rY h.may (i:=i) (v:=x.s) (by rw[← hs,List.getElem?_map,hi];rfl)
  have h2:=(List.getElem?_eq_some_iff.1 hi).1
  refine⟨?_,by omega,by omega⟩
  unfold dZ
  rw[h1,show(((i+1:Nat):Int) - 1).toNat=i by omega,List.getD_eq_getElem?_getD,hi];rfl
 have there : ∀ (i:Nat) (f:Pc),p.procs[i]? = some f→∀ v∈Sm.bH f.body,Hm p.bb.L i v.id:=fun i f hf v m=>by
  rw[← tX (i:Int) 0 (-1) 0 f.body]at m
  obtain⟨x,hx,rfl⟩:=List.mem_map.1 m
  have hxL:x∈p.bb.L:=by rw[hL];exact Gx p.procs 0 hf (by simpa using hx)
  obtain⟨g1,g2,g3⟩:=self x hxL
  exact⟨g2,g3,by rw[g1];exact(xk (R:=fun _=>True) _ 0 (-1) 0 f.body (fun _ _=>trivial) (.inl rfl) (.inl rfl) x hx).1⟩
 refine⟨fun x m=>?_,fun i f hf=>E0 (there i f hf) (.inl rfl)⟩
 have m':=m
 rw[hL]at m'
 obtain⟨i,f,h1,h2⟩:=Gw p.procs 0 m'
 have hf:=List.mem_of_getElem? h1
 rw[Nat.zero_add]at h2
 obtain⟨g1,g2,g3,g4,g5,g6⟩:=xk (R:=Hm p.bb.L i) _ 0 (-1) 0 f.body (there i f h1) (.inl rfl) (.inl rfl) x h2
 have hl:=h.leads f hf (x.s,x.loop) (by rw[← Gs (i:Int) f];exact List.mem_map.2 ⟨x,h2,rfl⟩)
 refine⟨f,self x m,⟨by rw[g1];simpa using h1,by rw[g1];exact Int.natCast_nonneg _⟩,g6,by rw[g1];exact g2,fun hk=>?_,by rw[g1];exact g4,by rw[g1];exact g5,fun hk=>?_⟩
 ·rw [g1]
  refine g3.resolve_left fun e=>?_
  unfold kl at hl
  rw[if_pos (by rcases hk with hk|hk<;>simp[hk]),e]at hl
  cases hl
 ·rw [g1]
  refine QG (there i f h1) ?_
  unfold kl at hl
  rw[if_neg (by simp[hk]),if_pos (by simp[hk])]at hl
  rw[zp];exact hl
theorem Hm.at {L:List Im} {k a:Int} (h:AtR (Hm L k) a):pO L a:=h.imp_right fun h=>⟨h.1,h.2.1⟩
theorem Xh.lok {p:Pg} {L:List Im} (h:Xh p L):CY p L:=by
 refine⟨fun x m=>?_,fun x m=>?_,fun x m hk=>?_,fun x m hk=>?_,fun x m=>?_,fun x m=>?_,fun f hf=>?_⟩
 ·obtain⟨f,o⟩:=h.im x m;exact o.self.2
 ·obtain⟨f,o⟩:=h.im x m;exact Hm.at o.next
 ·obtain⟨f,o⟩:=h.im x m;exact⟨(o.loop hk).1,(o.loop hk).2.1⟩
 ·obtain⟨f,o⟩:=h.im x m;exact⟨f,o.proc.1,Hm.at (o.uW hk)⟩
 ·obtain⟨f,o⟩:=h.im x m;exact Hm.at o.aO
 ·obtain⟨f,o⟩:=h.im x m;exact Hm.at o.aN
 ·obtain⟨i,hi⟩:=List.getElem?_of_mem hf
  exact Hm.at (h.head i f hi)
theorem Xi {p:Pg} (h:p.Right):CY p p.bb.L:=(pB h).lok
theorem N4 {vars globals:List aK} {n:aK} : ∀ {l:List Pm},zj vars globals n l≠0→n∈l.map (·.name)∨n∈vars∨n∈globals
 | [],h=>by
  simp only[zj]at h
  split at h
  ·rename_i e;exact .inr (.inl ((fx _ _).1 e))
  ·split at h
   ·rename_i e;exact .inr (.inr ((fx _ _).1 e))
   ·exact absurd rfl h
 | a::l,h=>by
  simp only[zj]at h
  split at h
  ·rename_i e;exact .inl (by simp only[List.map_cons,List.mem_cons];exact .inl (by simpa using Eq.symm (by simpa using e)))
  ·rcases N4 h with h | h
   ·exact .inl (List.mem_cons_of_mem _ h)
   ·exact .inr h
theorem aaw {p:Pg} {f:Pc} {v:Sm} (h:v.known p f p.pn=true) {n:aK} (m:n∈v.said):n∈p.globals++f.own:=by
 simp only[Sm.known,Bool.and_eq_true,Bool.not_eq_true']at h
 have h1:f.j9 p n≠0:=fun e=>by
  have:v.said.any (fun n=>f.j9 p n==0)=true:=List.any_eq_true.2 ⟨n,m,by simp[e]⟩
  rw[h.1]at this;cases this
 simp only[List.mem_append,Pc.own,Pc.tT]
 rcases N4 h1 with h2|h2|h2
 ·exact .inr (.inl h2)
 ·exact .inr (.inr h2)
 ·exact .inl h2
theorem xg {n:aK} : ∀ {l:List Ar} {out:List aK},n∈out∨(∃ a∈l,a.ref=true∧a.name=n)→n∈Ar.said out l
 | [],out,h=>by rcases h with h|⟨a,m,_⟩;exact h;cases m
 | b::l,out,h=>by
  simp only[Ar.said]
  refine xg ?_
  rcases h with h|⟨a,m,h1,h2⟩
  ·left;split<;>simp[h]
  ·rcases List.mem_cons.1 m with rfl | m
   ·left;rw[if_pos h1];simp[h2]
   ·exact .inr ⟨a,m,h1,h2⟩
theorem N5 {x:aK} : ∀ {l:List aK} {k:Nat},x∈l→∃ j:Nat,j7 x (k:Int) l=((k+j:Nat):Int)∧j<l.length
 | s::l,k,m=>by
  by_cases e:x=s
  ·subst e;exact⟨0,by simp[j7],by simp⟩
  ·have e':(x==s)=false:=by simp [e]
   obtain⟨j,h1,h2⟩:=N5 (l:=l) (k:=k+1) ((List.mem_cons.1 m).resolve_left e)
   refine⟨j+1, ?_,by simp;omega⟩
   simp only[j7,e',Bool.false_eq_true,if_false]
   rw[show(k:Int)+1=((k+1:Nat):Int) by omega,h1];congr 1;omega
theorem E1 {name:aK} {f:Pc} : ∀ {l:List Pc} {k:Nat},iE name l=some f→∃ j:Nat,mC (fun f:Pc=>f.name==name) (k:Int) l=((k+j:Nat):Int)∧l[j]? = some f
 | g::l,k,h=>by
  simp only[iE]at h
  by_cases e:(g.name==name)=true
  ·rw [if_pos e]at h;cases h
   exact⟨0,by simp only[mC,e,if_true,Nat.add_zero],rfl⟩
  ·have e':(g.name==name)=false:=by simpa using e
   rw[if_neg e]at h
   obtain⟨j,h1,h2⟩:=E1 (l:=l) (k:=k+1) h
   refine⟨j+1, ?_,by simpa using h2⟩
   simp only[mC,e',Bool.false_eq_true,if_false]
   rw[show(k:Int)+1=((k+1:Nat):Int) by omega,h1];congr 1;omega
def Gy (p:Pg) (n:Nat) (fr:Fr):Prop:=∃ f,p.procs[fr.proc.toNat]? = some f∧0≤fr.proc∧fr.names=p.globals++f.own∧fr.vars.length=fr.names.length∧∀ c∈fr.vars,c<n
def E2 (L:List Im):List Fr→Prop
 | []=>False
 | [fr]=>fr.call=0
 |fr::wS::l=>(Hm L wS.proc fr.call∧(dZ L fr.call).s.kind=4)∧E2 L (wS::l)
structure qV (p:Pg) (L:List Im) (a:Int) (m:Mc):Prop where
 st:E2 L m.st
 fr : ∀ fr∈m.st,Gy p m.mem.length fr
 at_:AtR (Hm L m.top.proc) a
 sE:p.globals.length≤m.mem.length
theorem Gy.mono {p:Pg} {n n':Nat} {fr:Fr} (h:Gy p n fr) (hn:n≤n'):Gy p n' fr:=by
 obtain⟨f,h1,h2,h3,h4,h5⟩:=h
 exact⟨f,h1,h2,h3,h4,fun c m=>Nat.lt_of_lt_of_le (h5 c m) hn⟩
theorem E2.ne {L:List Im} {l:List Fr} (h:E2 L l) : ∃ fr r,l=fr::r:=by
 cases l with
 |nil=>exact h.elim
 |cons fr r=>exact⟨fr,r,rfl⟩
theorem Mc.ae1 {L:List Im} {m:Mc} (h:E2 L m.st):m.top∈m.st:=by
 obtain⟨fr,r,e⟩:=h.ne
 simp[Mc.top,e]
theorem qV.of {p:Pg} {L:List Im} {a a':Int} {m m':Mc} (h:qV p L a m) (h1:m'.st=m.st) (h2:m.mem.length≤m'.mem.length) (h3:AtR (Hm L m.top.proc) a'):qV p L a' m':=by
 have ht:m'.top=m.top:=by unfold Mc.top;rw[h1]
 exact⟨by rw[h1];exact h.st,fun fr hf=>(h.fr fr (by rw[← h1];exact hf)).mono h2,by rw[ht];exact h3,Nat.le_trans h.sE h2⟩
section
variable {p:Pg} {L:List Im} {m:Mc}
theorem ae2 {n:aK} {k:Nat} (h:Gy p k m.top) (hn:n∈m.top.names):m.cell n<k∧∃ j:Nat,j7 n 0 m.top.names=(j:Int)∧m.top.vars[j]? = some (m.cell n):=by
 obtain⟨f,h1,h2,h3,h4,h5⟩:=h
 obtain⟨j,e1,e2⟩:=N5 (k:=0) hn
 have e3:j7 n 0 m.top.names=(j:Int):=by simpa using e1
 have e4:m.top.vars[j]? = some (m.cell n):=by
  unfold Mc.cell
  rw[e3,Int.toNat_natCast,List.getD_eq_getElem?_getD,List.getElem?_eq_getElem (by omega)];rfl
 exact⟨h5 _ (List.mem_of_getElem? e4),j,e3,e4⟩
theorem Jx {k:Nat} (hk:p.globals.length≤k) : ∀ (l:List Ar) (m:Mc) (out:List Nat),Gy p m.mem.length m.top→(∀ a∈l,a.ref=true→a.name∈m.top.names)→(∀ c∈out,c<m.mem.length)→
 m.mem.length≤(Mc.args l m out).2.mem.length∧∀ o,(Mc.args l m out).1=some o→o.length=out.length+l.length∧∀ c∈o,c<(Mc.args l m out).2.mem.length
 | [],m,out,h,_,ho=>⟨Nat.le_refl _,fun o e=>by cases e;exact⟨rfl,ho⟩⟩
 | a::l,m,out,h,hn,ho=>by
  simp only[Mc.args]
  by_cases c:a.ref=true
  ·rw [if_pos c]
   obtain⟨g1,g2⟩:=Jx hk l m (out++ [m.cell a.name]) h (fun b mb=>hn b (List.mem_cons_of_mem _ mb)) fun x mx=>by
    rcases List.mem_append.1 mx with mx|mx
    ·exact ho x mx
    ·rw[List.mem_singleton.1 mx];exact(ae2 h (hn a (List.mem_cons_self ..) c)).1
   exact⟨g1,fun o e=>⟨by rw[(g2 o e).1];simp;omega,(g2 o e).2⟩⟩
  ·rw [if_neg c]
   have he:=iR m a.x
   by_cases c2:(m.bj a.x).1.2=true
   ·rw [if_pos c2]
    have ht:({(m.bj a.x).2 with mem:=(m.bj a.x).2.mem++ [(m.bj a.x).1.1]} : Mc).top=m.top:=by unfold Mc.top;rw[he.1]
    have hl:(m.bj a.x).2.mem.length=m.mem.length:=by rw[he.2.1]
    obtain⟨g1,g2⟩:=Jx hk l {(m.bj a.x).2 with mem:=(m.bj a.x).2.mem++ [(m.bj a.x).1.1]} (out++ [(m.bj a.x).2.mem.length]) (by rw[ht];exact h.mono (by simp[hl])) (by rw[ht];exact fun b mb=>hn b (List.mem_cons_of_mem _ mb)) fun x mx=>by
     rcases List.mem_append.1 mx with mx|mx
     ·have:=ho x mx;simp[hl];omega
     ·rw[List.mem_singleton.1 mx];simp
    exact⟨Nat.le_trans (by simp[hl]) g1,fun o e=>⟨by rw[(g2 o e).1];simp;omega,(g2 o e).2⟩⟩
   ·rw [if_neg c2]
    exact⟨by rw[he.2.1];exact Nat.le_refl _,fun o e=>by cases e⟩
theorem QH (hP:Xh p L) {i:Nat} {f:Pc} (hf:p.procs[i]? = some f) {l:List Nat} {call:Int} (hl:l.length=f.params.length) (hc : ∀ c∈l,c<m.mem.length) (hg:p.globals.length≤m.mem.length)
 (uz : ∀ fr∈m.st,Gy p m.mem.length fr) (iL:(m.st = []∧call=0)∨(E2 L m.st∧Hm L m.top.proc call∧(dZ L call).s.kind=4)):qV p L (m.open p (i:Int) l call).1 (m.open p (i:Int) l call).2:=by
 unfold Mc.open
 rw[Int.toNat_natCast,hf]
 dsimp only
 refine⟨?_,fun fr h=>?_,by exact hP.head i f hf,by simp;omega⟩
 ·rcases iL with ⟨h1,h2⟩ | ⟨h1,h2⟩
  ·rw[h1];exact h2
  ·obtain⟨fr,r,e⟩:=h1.ne
   dsimp only
   rw[e]at h1 ⊢
   have:m.top=fr:=by simp[Mc.top,e]
   rw[this]at h2
   exact⟨h2,h1⟩
 ·rcases List.mem_cons.1 h with rfl | h
  ·refine⟨f,by rw [Int.toNat_natCast];exact hf,Int.natCast_nonneg _,rfl,by simp [Pc.own,Pc.tT,hl],fun c m=> ?_⟩
   simp only[List.mem_append,List.mem_range,List.mem_map]at m
   simp only[List.length_append,List.length_replicate]
   rcases m with (m|m)|⟨x,m,rfl⟩
   ·omega
   ·have:=hc c m;omega
   ·omega
  ·exact(uz fr h).mono (by simp)
theorem ae3 (hP:Xh p L) {a:Int} (h:qV p L a m) {g:Int} {a':Int} {m':Mc} (e:m.back L g=(some a',m')):qV p L a' m':=by
 have hs:=h.st
 unfold Mc.back Mc.close at e
 dsimp only at e
 obtain⟨fr,r,es⟩:=hs.ne
 have ht:m.top=fr:=by simp[Mc.top,es]
 by_cases c:(m.top.call==0)=true
 ·rw[if_pos c]at e;cases e
 ·rw [if_neg c]at e
  rw[es]at hs
  cases r with
  |nil=>rw[ht]at c;exact absurd (beq_iff_eq.2 (show fr.call=0 from hs)) c
  | cons wS r=>
   obtain⟨⟨h1,_⟩,h2⟩:=hs
   have iO:dZ L m.top.call∈L:=qU (.inr (by rw[ht];exact⟨h1.1,h1.2.1⟩)) (by have:=h1.1;rw[ht];omega)
   obtain⟨f,o⟩:=hP.im _ iO
   have ho:=o.next
   rw[show(dZ L m.top.call).proc=wS.proc by rw[ht];exact h1.2.2]at ho
   rw[ht]at ho
   split at e<;>(dsimp only at e;split at e)<;>first|(cases e;done)|skip
   all_goals
    cases e
    refine⟨by simp only[Mc.set,es,List.tail_cons];exact h2,fun q hq=>?_,by simp only[Mc.set,Mc.top,es,List.tail_cons,List.headD_cons];exact ho,by simp only[Mc.set,List.length_set];exact h.sE⟩
    simp only[Mc.set,List.length_set]at hq ⊢
    exact h.fr q (by rw[es]at hq ⊢;exact List.mem_cons_of_mem _ hq)
end
theorem Ch {p:Pg} (hR:p.Right) {x:Im} {f:Pc} (h:Cg p p.bb.L x f) {n:aK} (m:n∈x.s.said):n∈p.globals++f.own:=
 aaw (hR.known f (List.mem_of_getElem? h.proc.1) x.s h.mem) m
theorem ae4 {p:Pg} (hR:p.Right) {x:Im} {f:Pc} (h:Cg p p.bb.L x f) (hk:x.s.kind=4) : ∃ (j:Nat) (q:Pc),p.at x.s.proc=(j:Int)∧p.procs[j]? = some q∧x.s.args.length=q.params.length:=by
 have rM:x.s∈p.pre:=by
  simp only[Pg.pre,List.mem_flatten,List.mem_map];exact⟨_,⟨f,List.mem_of_getElem? h.proc.1,rfl⟩,h.mem⟩
 have hf:=hR.fits x.s rM (by simp[hk])
 unfold Sm.pN at hf
 simp only[Bool.and_eq_true]at hf
 cases e:p.find x.s.proc with
 |none=>rw[e]at hf;cases hf.2
 |some q=>
  rw[e]at hf
  obtain⟨j,h1,h2⟩:=E1 (k:=0) e
  refine⟨j,q,by simpa[Pg.at]using h1,h2, ?_⟩
  have:=hf.2
  simp only[EW]at this
  split at this
  ·rename_i h3;have:=(beq_iff_eq.1 h3);omega
  ·cases this
theorem ae5 {p:Pg} (hR:p.Right) {m:Mc} {W:List Int} {x:Im} {f:Pc} {a a':Int} {m':Mc} (h:qV p p.bb.L a m) (hx:Cg p p.bb.L x f) (hk:x.s.kind=4) (hp:x.proc=m.top.proc) (N6:(m.call p W x.s).2.fin=0)
 (e:m.call p W x.s=(a',m')) (h0:m.fin=0):qV p p.bb.L a' m':=by
 have hP:=pB hR
 have Ci:=h.fr _ (Mc.ae1 h.st)
 obtain⟨f',t1,t2,t3,t4,t5⟩:=Ci
 have ef:f'=f:=by have:=hx.proc.1;rw[hp,t1]at this;exact Option.some.inj this
 subst ef
 have aiX : ∀ b∈x.s.args,b.ref=true→b.name∈m.top.names:=fun b mb hb=>by
  rw[t3];exact Ch hR hx (xg (.inr ⟨b,mb,hb,rfl⟩))
 obtain⟨j,q,c1,c2,c3⟩:=ae4 hR hx hk
 have g1:=Jx h.sE x.s.args m [] ⟨f',t1,t2,t3,t4,t5⟩ aiX (by simp)
 have g2:=xj x.s.args m []
 have g3:=B9 x.s.args m [] h0
 unfold Mc.call at e N6
 generalize Mc.args x.s.args m [] = r at *
 obtain⟨o,m1⟩:=r
 cases o with
 |none=>
  dsimp only at N6 g3
  rw[g3.2]at N6;cases N6
 | some l=>
  dsimp only at e N6 g1 g2 g3
  by_cases c:m1.st.length > 100
  ·rw[if_pos c]at N6;cases N6
  ·rw [if_neg c]at e
   have he:=fF W m1 x.s.id []
   have ht:(m1.event W x.s.id []).top=m.top:=by unfold Mc.top;rw[he.1,g2.1]
   have:=QH (m:=m1.event W x.s.id []) hP c2 (l:=l) (call:=x.s.id) (by rw[(g1.2 l rfl).1,c3];simp) (by rw[he.2.1];exact(g1.2 l rfl).2) (by rw[he.2.1];exact Nat.le_trans h.sE g1.1)
    (by rw[he.1,he.2.1,g2.1];exact fun fr uz=>(h.fr fr uz).mono g1.1) (.inr ⟨by rw[he.1,g2.1];exact h.st,by rw[ht];exact⟨hx.self.2.1,hx.self.2.2,by rw[hx.self.1];exact hp⟩,by rw[hx.self.1];exact hk⟩)
   rw[← c1,e]at this
   exact this
theorem amN {p:Pg} (hR:p.Right) {m:Mc} {T W:List Int} {x:Im} {f:Pc} {a:Int} (h:qV p p.bb.L a m) (hx:Cg p p.bb.L x f) (hp:x.proc=m.top.proc) :
 ((m.do p p.bb.L T W x).2.fin=0→qV p p.bb.L (m.do p p.bb.L T W x).1 (m.do p p.bb.L T W x).2):=by
 intro h0
 have ev : ∀ (m1:Mc) (id:Int) (bD:List Int),(m1.event W id bD).st=m1.st∧(m1.event W id bD).mem=m1.mem:=fun m1 id bD=>⟨(fF W m1 id bD).1,(fF W m1 id bD).2.1⟩
 have key : ∀ (m1:Mc) (b:Int),m1.st=m.st→m1.mem.length=m.mem.length→AtR (Hm p.bb.L x.proc) b→qV p p.bb.L b m1:=fun m1 b h1 h2 h3=>h.of h1 (Nat.le_of_eq h2.symm) (by rw[← hp];exact h3)
 have hw:=iR m x.s.x
 unfold Mc.do at h0 ⊢
 dsimp only at h0 ⊢
 by_cases c7:(x.s.kind==7)=true
 ·rw [if_pos c7]
  have hk:x.s.kind=7:=by simpa using c7
  have hl:=hx.loop (.inl hk)
  have iO:=qU (L:=p.bb.L) (a:=x.loop) (.inr ⟨hl.1,hl.2.1⟩) (by have:=hl.1;omega)
  obtain⟨g,o⟩:=(pB hR).im _ iO
  refine key _ _ (ev _ _ _).1 (by rw[(ev _ _ _).2]) ?_
  have:=o.next
  rw[hl.2.2]at this;exact this
 rw[if_neg c7]at h0 ⊢
 by_cases c8:(x.s.kind==8)=true
 ·rw [if_pos c8]
  exact key _ _ (ev _ _ _).1 (by rw[(ev _ _ _).2]) (.inr (hx.loop (.inr (by simpa using c8))))
 rw[if_neg c8]at h0 ⊢
 by_cases KR:(x.s.kind==10)=true
 ·rw [if_pos KR]
  refine key _ _ (ev _ _ _).1 (by rw[(ev _ _ _).2]) ?_
  have:=hx.uW (by simpa using KR)
  rw[hx.proc.1];exact this
 rw[if_neg KR]at h0 ⊢
 by_cases c2:(x.s.kind==2)=true
 ·rw [if_pos c2]at h0 ⊢
  split at h0
  ·cases h0
  ·rename_i n e
   exact key _ _ (ev _ _ _).1 (by rw[(ev _ _ _).2];simp[Mc.set]) hx.next
 rw[if_neg c2]at h0 ⊢
 by_cases cw:(m.bj x.s.x).1.2=true
 ·rw [if_pos cw]at h0 ⊢
  have e1:((m.bj x.s.x).2.event W x.s.id [(m.bj x.s.x).1.1]).st=m.st:=(ev _ _ _).1.trans hw.1
  have e2:((m.bj x.s.x).2.event W x.s.id [(m.bj x.s.x).1.1]).mem.length=m.mem.length:=by rw[(ev _ _ _).2,hw.2.1]
  have fo : ∀ (l:List Sm) (b:Int),AtR (Hm p.bb.L x.proc) (dA l (-1))→AtR (Hm p.bb.L x.proc) b→AtR (Hm p.bb.L x.proc) (firstM l b):=fun l b h1 h2=>by
   cases l with
   |nil=>exact h2
   |cons s l=>exact h1
  split
  ·exact key _ _ e1 (by simp only[Mc.set,List.length_set];exact e2) hx.next
  split
  ·exact key _ _ e1 e2 hx.next
  split
  ·refine key _ _ e1 e2 ?_
   split
   ·exact fo _ _ hx.aN hx.next
   ·exact fo _ _ hx.aO hx.next
  split
  ·refine key _ _ e1 e2 ?_
   split
   ·exact hx.next
   ·exact fo _ _ hx.aO (.inr ⟨hx.self.2.1,hx.self.2.2,by rw[hx.self.1]⟩)
  ·exact key _ _ e1 e2 hx.next
 ·rw [if_neg cw]at h0
  have:(m.bj x.s.x).2.fin=4:=by unfold Mc.bj;dsimp only;rw[if_neg (show ¬ (x.s.x.bj m.top.names m.bD).2=true from cw)]
  rw[this]at h0;cases h0
end Go.Abs
