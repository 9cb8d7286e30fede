/-
  What is proved here: part 3 of the road to the claim (MayEq2, Sc1, Sc2, Sc3, ScP, Sc4, Rng, FineM, Sc5, Ar1, Ar2, Ar3, Srt1, Shelf, SortR, SrtP, Tc1, Tc2, Tc3, Bsl, Tc4, Tc5, Tc6, FlP, JmpP, Jm1, Jm2, MirRun, RunTot, RunFu, RunOk, Swap0, Swap2p, ToP, Al1, Al2, Al3, MirParse, Room1, Al4, Full1, Fits1, Fits2, MirEq, RefEq2, LawTo1, AlP, LawAl2, SwP, MirMapS, MapS, RightP, RunLo, RunNm, RunMc).
  No conditions.
-/
import Derived.Test.YtpjadlleefgcpaaGreatRnI2
import Derived.Shelf.Small.Bits
import Derived.Shelf.Strconv.Itoa0
import Derived.Shelf.Sort.Plain
import Derived.Shelf.Slices.Turned
import Derived.Ground.Names2Prog
import Derived.Shelf.Slices.Clone
import Derived.Shelf.Slices.CompactS
import Derived.Shelf.Slices.Cells
import Derived.Shelf.Slices.In.SortNone
import Derived.Ground.SlgnProg
import Derived.Shelf.SlicesE.Clone
import Derived.Test.YtpjadlleefgcpaaGreatProg
import Derived.Sort.Walk0

set_option linter.unusedSimpArgs false
set_option linter.unusedVariables false
namespace Go.Abs
theorem lY : ∀ (a b:List It) (n:Nat),It.fP n (a++b)=(It.fP n a && It.fP (n+a.length) b)
 | [],b,n=>by simp[It.fP]
 |i::a,b,n=>by
  simp only[List.cons_append,It.fP,lY a b (n+1),List.length_cons]
  have:n+1+a.length=n+(a.length+1):=by omega
  rw[this]
  split<;>simp
theorem Hy (n:Nat) (i:It):It.fP n [i] = true↔i.s.id=((n+1:Nat):Int)∧i.deep≤12∧i.s.one=true:=by
 simp only[It.fP]
 split
 ·rename_i h
  simp only[Bool.or_eq_true,bne_iff_ne,ne_eq,decide_eq_true_eq,Bool.not_eq_true']at h
  refine⟨fun h=>(Bool.false_ne_true h).elim,fun⟨h1,h2,h3⟩=>?_⟩
  rcases h with (h|h)|h
  ·exact(h h1).elim
  ·omega
  ·rw[h]at h3;cases h3
 ·rename_i h
  simp only[Bool.or_eq_true,bne_iff_ne,ne_eq,decide_eq_true_eq,Bool.not_eq_true',not_or,Decidable.not_not,Bool.not_eq_false]at h
  exact⟨fun _=>⟨h.1.1,by omega,h.2⟩,fun _=>rfl⟩
mutual
theorem DJ (deep bW:Int) (aM:Bool) : ∀ (s:Sm) (out:List It),∃ new,gL deep bW aM out s=out++(⟨s,deep,bW,aM⟩::new)
 | ⟨id,kind,labels,name,proc,x,has,args,aP,e⟩,out=>by
  simp only[gL]
  split
  ·obtain⟨n1,h1⟩:=sM (deep+1) id false aP (out++ [⟨⟨id,kind,labels,name,proc,x,has,args,aP,e⟩,deep,bW,aM⟩])
   obtain⟨n2,h2⟩:=sM (deep+1) id true e (dO (deep+1) id false (out++ [⟨⟨id,kind,labels,name,proc,x,has,args,aP,e⟩,deep,bW,aM⟩]) aP)
   rw[h2,h1]
   exact⟨n1++n2,by simp⟩
  ·exact⟨[],rfl⟩
theorem sM (deep bW:Int) (aM:Bool) : ∀ (l:List Sm) (out:List It),∃ new,dO deep bW aM out l=out++new
 | [],out=>⟨[],by simp[dO]⟩
 | s::l,out=>by
  simp only[dO]
  split
  ·obtain⟨n1,h1⟩:=DJ deep bW aM s out
   obtain⟨n2,h2⟩:=sM deep bW aM l (gL deep bW aM out s)
   rw[h2,h1]
   exact⟨⟨s,deep,bW,aM⟩::n1++n2,by simp⟩
  ·exact⟨[],by simp⟩
end
theorem J1 {nest:Int} {n:Nat} {s:Sm} (h:(Sm.rG nest n s).1=true) :
 n+1≤200∧s.id=((n+1:Nat):Int)∧s.one=true∧(Sm.iI (nest+1) (n+1) s.aP).1=true∧(Sm.iI (nest+1) (Sm.iI (nest+1) (n+1) s.aP).2 s.aM).1=true∧
 (Sm.rG nest n s).2=(Sm.iI (nest+1) (Sm.iI (nest+1) (n+1) s.aP).2 s.aM).2:=by
 rw[I9]at h ⊢
 split at h
 ·cases h
 rename_i h1
 simp only[Bool.or_eq_true,bne_iff_ne,ne_eq,decide_eq_true_eq,Bool.not_eq_true',not_or,Decidable.not_not,Bool.not_eq_false]at h1
 split at h
 ·cases h
 rename_i h2
 have wx:(Sm.iI (nest+1) (n+1) s.aP).1=true:=by simpa using h2
 refine⟨by omega,h1.1.1.2, ?_,wx,h, ?_⟩
 ·rw[Hx,h1.1.2,h1.2];rfl
 ·rw[if_neg (by simp only[Bool.or_eq_true,bne_iff_ne,ne_eq,decide_eq_true_eq,Bool.not_eq_true',not_or,Decidable.not_not,Bool.not_eq_false];exact h1),if_neg h2]
theorem vK {nest:Int} {n:Nat} {l:List Sm} (h:(Sm.iI nest n l).1=true):(l = []∨nest≤12)∧Sm.iI nest n l=Sm.fU nest n l:=by
 unfold Sm.iI gate at *
 split at h
 ·cases h
 ·rename_i hc
  rw[if_neg hc]
  refine⟨?_,rfl⟩
  simp only[Bool.and_eq_true,decide_eq_true_eq,not_and]at hc
  cases l with
  |nil=>exact .inl rfl
  |cons s l=>right;simp only[List.length_cons]at hc;omega
mutual
theorem V5 : ∀ (s:Sm) (nest bW:Int) (aM:Bool) (n:Nat) (out:List It),nest≤12→out.length≤n→n≤200→(Sm.rG nest n s).1=true→
 ∃ new,gL nest bW aM out s=out++new∧It.fP n new=true∧n+new.length=(Sm.rG nest n s).2∧(Sm.rG nest n s).2≤200
 | ⟨id,kind,labels,name,proc,x,has,args,aP,e⟩,nest,bW,aM,n,out,V6,ho,hn,h=>by
  obtain⟨h1,h2,h3,h4,h5,h6⟩:=J1 h
  dsimp only at h2 h4 h5 h6
  rw[h6]
  obtain⟨g1,e1⟩:=vK h4
  rw[e1]at h4 h5 ⊢
  obtain⟨g2,e2⟩:=vK h5
  rw[e2]at h5 ⊢
  have rp:It.fP n [(⟨⟨id,kind,labels,name,proc,x,has,args,aP,e⟩,nest,bW,aM⟩:It)] = true:=(Hy _ _).2 ⟨h2,V6,h3⟩
  obtain⟨n1,k1,k2,k3,k4⟩:=yM aP (nest+1) id false (n+1) (out++ [⟨⟨id,kind,labels,name,proc,x,has,args,aP,e⟩,nest,bW,aM⟩]) g1 (by simp;omega) h1 h4
  obtain⟨n2,j1,j2,j3,j4⟩:=yM e (nest+1) id true _ (out++ [⟨⟨id,kind,labels,name,proc,x,has,args,aP,e⟩,nest,bW,aM⟩]++n1) g2 (by simp;omega) k4 h5
  simp only[gL]
  rw[if_pos (by simpa using V6),k1,j1]
  refine⟨⟨⟨id,kind,labels,name,proc,x,has,args,aP,e⟩,nest,bW,aM⟩::(n1++n2),by simp, ?_, ?_,j4⟩
  ·have:(⟨⟨id,kind,labels,name,proc,x,has,args,aP,e⟩,nest,bW,aM⟩:It)::(n1++n2) = [⟨⟨id,kind,labels,name,proc,x,has,args,aP,e⟩,nest,bW,aM⟩]++n1++n2:=by simp
   rw[this,lY,lY,rp,Bool.true_and]
   have e3:n+([(⟨⟨id,kind,labels,name,proc,x,has,args,aP,e⟩,nest,bW,aM⟩:It)]++n1).length=(Sm.fU (nest+1) (n+1) aP).2:=by simp;omega
   rw[e3,j2]
   have e4:n + [(⟨⟨id,kind,labels,name,proc,x,has,args,aP,e⟩,nest,bW,aM⟩:It)].length=n+1:=rfl
   rw[e4,k2];rfl
  ·simp only[List.length_cons,List.length_append];omega
theorem yM : ∀ (l:List Sm) (nest bW:Int) (aM:Bool) (n:Nat) (out:List It),(l = []∨nest≤12)→out.length≤n→n≤200→(Sm.fU nest n l).1=true→
 ∃ new,dO nest bW aM out l=out++new∧It.fP n new=true∧n+new.length=(Sm.fU nest n l).2∧(Sm.fU nest n l).2≤200
 | [],nest,bW,aM,n,out,V6,ho,hn,h=>⟨[],by simp[dO],rfl,by simp[Sm.fU],by simpa[Sm.fU]using hn⟩
 |s::l,nest,bW,aM,n,out,V6,ho,hn,h=>by
  have ahP:nest≤12:=V6.resolve_left (by simp)
  simp only[Sm.fU]at h ⊢
  split at h
  ·cases h
  rename_i hc
  rw[if_neg hc]
  obtain⟨n1,k1,k2,k3,k4⟩:=V5 s nest bW aM n out ahP ho hn (by simpa using hc)
  obtain⟨n2,j1,j2,j3,j4⟩:=yM l nest bW aM _ (out++n1) (.inr ahP) (by simp;omega) k4 h
  simp only[dO]
  rw[if_pos (by simp only[decide_eq_true_eq];omega),k1,j1]
  refine⟨n1++n2,by simp, ?_,by simp;omega,j4⟩
  rw[lY,k2,k3,j2];rfl
end
mutual
theorem V7 : ∀ (s:Sm) (nest bW:Int) (aM:Bool) (n:Nat) (out new:List It),gL nest bW aM out s=out++new→It.fP n new=true→out.length≤n→n+new.length≤200→
 Sm.rG nest n s=(true,n+new.length)∧nest≤12
 | ⟨id,kind,labels,name,proc,x,has,args,aP,e⟩,nest,bW,aM,n,out,new,iL,hm,ho,hn=>by
  obtain⟨n0,h0⟩:=DJ nest bW aM ⟨id,kind,labels,name,proc,x,has,args,aP,e⟩ out
  have e0:new = ⟨⟨id,kind,labels,name,proc,x,has,args,aP,e⟩,nest,bW,aM⟩::n0:=List.append_cancel_left (iL.symm.trans h0)
  subst e0
  have al7:(⟨⟨id,kind,labels,name,proc,x,has,args,aP,e⟩,nest,bW,aM⟩:It)::n0 = [⟨⟨id,kind,labels,name,proc,x,has,args,aP,e⟩,nest,bW,aM⟩]++n0:=rfl
  rw[al7,lY,Bool.and_eq_true]at hm
  obtain⟨oJ,kx⟩:=hm
  obtain⟨c1,c2,c3⟩:=(Hy _ _).1 oJ
  dsimp only at c1 c2 c3
  simp only[List.length_cons]at hn ⊢
  have ZC:dO (nest+1) id true (dO (nest+1) id false (out++ [⟨⟨id,kind,labels,name,proc,x,has,args,aP,e⟩,nest,bW,aM⟩]) aP) e=out++([⟨⟨id,kind,labels,name,proc,x,has,args,aP,e⟩,nest,bW,aM⟩]++n0):=by
   simp only[gL]at iL
   rw[if_pos (by simpa using c2)]at iL
   exact iL
  obtain⟨n1,g1⟩:=sM (nest+1) id false aP (out++ [⟨⟨id,kind,labels,name,proc,x,has,args,aP,e⟩,nest,bW,aM⟩])
  obtain⟨n2,g2⟩:=sM (nest+1) id true e (dO (nest+1) id false (out++ [⟨⟨id,kind,labels,name,proc,x,has,args,aP,e⟩,nest,bW,aM⟩]) aP)
  have en:n0=n1++n2:=by
   rw[g2,g1]at ZC
   simp only[List.append_assoc,List.append_cancel_left_eq]at ZC
   exact ZC.symm
  subst en
  have ZD:It.fP (n+1) (n1++n2)=true:=kx
  rw[lY,Bool.and_eq_true]at ZD
  simp only[List.length_append]at hn ⊢
  obtain⟨r1,r2⟩:=yN aP (nest+1) id false (n+1) _ n1 g1 ZD.1 (by simp;omega) (by omega)
  obtain⟨q1,q2⟩:=yN e (nest+1) id true (n+1+n1.length) _ n2 g2 ZD.2 (by rw[g1];simp;omega) (by omega)
  refine⟨?_,c2⟩
  have gg : ∀ {l:List Sm} {m:Nat} {r:Bool×Nat},Sm.fU (nest+1) m l=r→(l = []∨nest+1≤12)→Sm.iI (nest+1) m l=r:=by
   intro l m r h1 h2
   unfold Sm.iI gate
   rw[if_neg]
   ·exact h1
   ·simp only [Bool.and_eq_true,decide_eq_true_eq,not_and]
    rcases h2 with h2|h2
    ·subst h2;simp
    ·omega
  have t1:=gg r1 r2
  have t2:=gg q1 q2
  rw[I9]
  dsimp only
  rw[t1]
  dsimp only
  rw[t2]
  rw[Hx,Bool.and_eq_true]at c3
  rw[if_neg]
  ·simp;omega
  ·simp only [Bool.or_eq_true,bne_iff_ne,ne_eq,decide_eq_true_eq,Bool.not_eq_true',not_or,Decidable.not_not,Bool.not_eq_false]
   exact⟨⟨⟨by omega,c1⟩,c3.1⟩,c3.2⟩
theorem yN : ∀ (l:List Sm) (nest bW:Int) (aM:Bool) (n:Nat) (out new:List It),dO nest bW aM out l=out++new→It.fP n new=true→out.length≤n→n+new.length≤200→
 Sm.fU nest n l=(true,n+new.length)∧(l = []∨nest≤12)
 | [],nest,bW,aM,n,out,new,iL,hm,ho,hn=>by
  simp only[dO]at iL
  have:new = []:=by simpa using iL
  subst this
  exact⟨by simp[Sm.fU], .inl rfl⟩
 | s::l,nest,bW,aM,n,out,new,iL,hm,ho,hn=>by
  simp only[dO]at iL
  rw[if_pos (by simp only[decide_eq_true_eq];omega)]at iL
  obtain⟨n1,g1⟩:=DJ nest bW aM s out
  obtain⟨n2,g2⟩:=sM nest bW aM l (gL nest bW aM out s)
  have en:new=(⟨s,nest,bW,aM⟩::n1)++n2:=by
   rw[g2,g1,List.append_assoc,List.append_cancel_left_eq]at iL
   exact iL.symm
  subst en
  rw[lY,Bool.and_eq_true]at hm
  rw[List.length_append]at hn ⊢
  obtain⟨r1,r2⟩:=V7 s nest bW aM n out _ g1 hm.1 ho (by omega)
  obtain⟨q1,q2⟩:=yN l nest bW aM (n+(⟨s,nest,bW,aM⟩::n1:List It).length) _ n2 g2 hm.2 (by rw[g1,List.length_append];omega) (by omega)
  refine⟨?_, .inr r2⟩
  simp only[Sm.fU,r1,Bool.not_true,Bool.false_eq_true,↓reduceIte,q1]
  congr 1;omega
end
theorem DL : ∀ (l:List Pc) (out:List It),out.length≤200→(Pc.fU out.length l=true↔Pc.gQ l=true∧∃ new,allM out l=out++new∧(out++new).length≤200∧It.fP out.length new=true)
 | [],out,ho=>by simp[Pc.fU,Pc.gQ,allM,It.fP];exact ho
 | f::l,out,ho=>by
  have rH : ∀ (l:List Pc) (out:List It),∃ new,allM out l=out++new:=by
   intro l
   induction l with
   |nil=>intro out;exact⟨[],by simp[allM]⟩
   | cons f l ih=>
    intro out
    simp only[allM]
    split
    ·exact⟨_,rfl⟩
    ·obtain⟨n1,h1⟩:=ih (out++f.flat)
     exact⟨f.flat++n1,by rw[h1,List.append_assoc]⟩
  simp only[Pc.fU,Pc.gQ]
  have al8:(decide ((f.params.length:Int) > 8) ||decide ((f.vars.length:Int) > 16) || !(isName f.name) || !(ew f.vars) || !(ew f.fin))=(!(isName f.name) ||decide ((f.params.length:Int) > 8) ||decide ((f.vars.length:Int) > 16) || !(ew f.vars) || !(ew f.fin)):=by
   cases isName f.name<;>simp
  rw[al8]
  split
  ·simp
  split
  ·simp
  have hg:Sm.iI 1 out.length f.body=Sm.fU 1 out.length f.body:=by unfold Sm.iI gate;rw[if_neg (by simp)]
  rw[hg]
  constructor
  ·intro h
   split at h
   ·cases h
   rename_i hc
   obtain⟨n1,k1,k2,k3,k4⟩:=yM f.body 1 0 false out.length [] (.inr (by omega)) (by simp) ho (by simpa using hc)
   have iL:f.flat=n1:=by unfold Pc.flat;rw[k1];rfl
   rw[← k3, ← List.length_append]at h
   obtain⟨hh,n2,j1,j2,j3⟩:=(DL l (out++n1) (by rw[List.length_append];omega)).1 h
   refine⟨hh,n1++n2, ?_,by simpa using j2, ?_⟩
   ·simp only [allM,iL]
    rw[if_neg (by simp only[List.length_append,decide_eq_true_eq];omega),j1,List.append_assoc]
   ·rw[lY,k2, ← List.length_append,j3];rfl
  ·rintro⟨hh,new,j1,j2,j3⟩
   simp only[allM]at j1
   split at j1
   ·rename_i hc
    have:new=f.flat:=(List.append_cancel_left j1).symm
    subst this
    simp only[decide_eq_true_eq]at hc
    omega
   rename_i hc
   simp only[decide_eq_true_eq]at hc
   obtain⟨n2,g2⟩:=rH l (out++f.flat)
   have en:new=f.flat++n2:=by
    rw[g2,List.append_assoc]at j1
    exact(List.append_cancel_left j1).symm
   subst en
   rw[lY,Bool.and_eq_true]at j3
   rw[List.length_append,List.length_append]at j2
   obtain⟨r1,_⟩:=yN f.body 1 0 false out.length [] f.flat (by unfold Pc.flat;rfl) j3.1 (by simp) (by omega)
   rw[r1]
   simp only[Bool.not_true,Bool.false_eq_true,↓reduceIte]
   rw[← List.length_append]
   exact(DL l (out++f.flat) (by rw[List.length_append];omega)).2 ⟨hh,n2,g2,by simp;omega,by rw[List.length_append];exact j3.2⟩
theorem Ez (p:Pg):p.Jb=p.may:=by
 have h:=DL p.procs [] (by simp)
 unfold Pg.Jb Pg.may
 split
 ·rfl
 ·have e:Pc.fU 0 p.procs=(if !(Pc.gQ p.procs)then false else if decide ((p.all.length:Int) > 200)then false else It.fP 0 p.all):=by
   rw[Bool.eq_iff_iff]
   have h':Pc.fU 0 p.procs=true↔_:=h
   rw[h']
   have ha:p.all=allM [] p.procs:=rfl
   constructor
   ·rintro⟨h1,new,h2,h3,h4⟩
    rw[ha,h2,h1]
    simp only[List.nil_append]at h3 ⊢
    simp only[Bool.not_true,Bool.false_eq_true,↓reduceIte]
    rw[if_neg (by simp only[decide_eq_true_eq];omega)]
    exact h4
   ·intro h1
    cases hh:Pc.gQ p.procs
    ·rw[hh]at h1;simp at h1
    ·rw [hh]at h1
     simp only[Bool.not_true,Bool.false_eq_true,↓reduceIte]at h1
     split at h1
     ·cases h1
     ·rename_i hc
      simp only[decide_eq_true_eq]at hc
      exact⟨rfl,p.all,by rw[ha];rfl,by simp;omega,h1⟩
  exact e
set_option maxRecDepth 8000
open Go.Proofs
def atr (x:aK):List aK→Bool
 | []=>false
 |s::l=>if x==s then true else atr x l
def rS (pre:List aK):List aK→Bool
 | []=>false
 |s::l=>if fC pre s then true else rS (pre++ [s]) l
def fv (l:List aK):Bool:=rS [] l
theorem V8 {l:List aK} {k:Nat} {a:aK} (h:l[k]? = some a):l.take (k+1)=l.take k++ [a]:=by rw[List.take_add_one,h];rfl
theorem F3 {l:List aK} (hl:l.length<4611686018427387904) (g:Tag) (s:St):aH Tryz.prog pP [.slice g 1 (l.map encStr)] s (.bool (fv l)) s:=by
 refine aH.wk1 (d':= .slice .shared 1 (l.map encStr)) ?_ (Wk.shared _ _ _)
 refine aH.pure ?_ (by simp[D.bM,D.ok,Tag.ok,fI]) rfl s
 generalize h:fv l=p
 simp only[fv]at h
 unfold S0
 refine aH.go Hh rfl fun B Q hB hQ=>?_
 have⟨hD,hZ,gA,gB⟩:=bX
 repeat' (first
 |simp only[go_sem,hD,hZ,gA,gB]
 |(with_reducible first|refine bt fun hc=>?_|refine bu fun hc=>?_|refine bx (fun hc=>?_) fun hc=>?_)<;>(try simp only[hc,bs,↓reduceIte]at h)<;>try simp only[hc]
 |(with_reducible refine aI hQ ?_;exact fS))
 refine fG 0 0 (bp.ind (ι:=List aK×Nat) (fun i=>l.drop i.2=i.1∧rS (l.take i.2) i.1=p) (fun i=>i.1.length)
  (fun i=> [(0, .slice .shared 1 (l.map encStr)),(5, .slice .shared 1 (l.map encStr)),(6, .int .i64 (l.length:Int)),(7, .int .i64 (i.2:Int))]) (fun i=>⟨[],[]⟩) ?_ (l,0) ⟨rfl,h⟩)
 rintro⟨rest,k⟩ ⟨h1,h⟩ IH
 dsimp only at h1 h
 cases rest with
 |nil=>
  have hD:=drop_nil h1
  simp only[rS]at h
  repeat' (first
 |simp only[go_sem,hD,hZ,gA,gB]
 |(with_reducible first|refine bt fun hc=>?_|refine bu fun hc=>?_|refine bx (fun hc=>?_) fun hc=>?_)<;>(try simp only[hc,bs,↓reduceIte]at h)<;>try simp only[hc]
 |(with_reducible refine aI hQ ?_;exact fS))
 |cons a rest=>
  obtain⟨hZ,g2,hD,g4⟩:=drop_cons h1
  have cu:k<4611686018427387904:=by omega
  simp only[rS]at h
  have hc:=kv (l:=l.take k) (by rw[List.length_take];omega) a
  have e1:List.drop 0 (List.take k (l.map encStr))=(l.take k).map encStr:=by simp[List.map_take]
  have c1:((0:Int)≤(k:Int))=True:=by simp
  have c2:((k:Int)≤(l.length:Int))=True:=by simp only[eq_iff_iff,iff_true];omega
  have e2:List.take k (l.map encStr)=(l.take k).map encStr:=by simp[List.map_take]
  repeat' (first
 |simp only[go_sem,hD,hZ,gA,gB,e1,e2,c1,c2,or_true,true_and,and_self,ite_self,Int.toNat_natCast,List.drop_zero]
 |(with_reducible refine CU (hc _ _) ?_)
 |(with_reducible first|refine bt fun hc=>?_|refine bu fun hc=>?_|refine bx (fun hc=>?_) fun hc=>?_)<;>(try simp only[hc,bs,↓reduceIte]at h)<;>try simp only[hc]
 |(with_reducible refine aI hQ ?_;(try cases h);simp only[bh,bj,bP,bQ,go_sem,hD,hZ,gA,gB,e1,e2,c1,c2,or_true,true_and,and_self,ite_self,Int.toNat_natCast,List.drop_zero];try exact cO))
  refine fi 0 0 ?_ ?_ (IH (rest,k+1) ⟨g2,by dsimp only;rw[V8 (by assumption)];exact h⟩ (Nat.lt_succ_self _))
  ·(simp only[go_sem,hD,hZ,gA,gB,aN cu];try exact bY)
  ·(simp only[go_sem,hD,hZ,gA,gB,aN cu];try exact bY)
set_option maxRecDepth 8000
open Go.Proofs
def yO (vars globals:List aK) (name:aK):List Pm→Int
 | []=>if fC vars name then 4 else if fC globals name then 1 else 0
 |a::l=>if a.name==name then(if a.ref then 3 else 2)else yO vars globals name l
def Pc.kQ (p:Pg) (f:Pc) (name:aK):Int:=yO f.vars p.globals name f.params
theorem Nf {p:Pg} {f:Pc} (hp:f.params.length<1000000000) (hv:f.vars.length<1000000000) (hg:p.globals.length<1000000000) (name:aK) (s:St):aH Tryz.prog xA [.agg (bO p), .agg (bN f), .str name] s (.int .i64 (f.kQ p name)) s:=by
 refine aH.pure ?_ (by simp[D.bM,D.ok,iy,zA]) rfl s
 have uq:=kv (l:=f.vars) (by omega) name
 have wx:=kv (l:=p.globals) (by omega) name
 generalize h:f.kQ p name=q
 simp only[Pc.kQ]at h
 unfold S0
 refine aH.go I1 rfl fun B Q hB hQ=>?_
 have⟨hD,hZ,gA,gB⟩:=bX
 repeat' (first
 |simp only[go_sem,hD,hZ,gA,gB]
 |(with_reducible refine aI hQ ?_;exact bA))
 refine fG 2 0 (bp.ind (ι:=List Pm×Nat) (fun i=>f.params.drop i.2=i.1∧yO f.vars p.globals name i.1=q) (fun i=>i.1.length)
  (fun i=> [(2, .str name),(3, .ptr 0 0),(4, .ptr 1 0),(10, .slice .shared 2 (f.params.map iJ)),(11, .int .i64 (f.params.length:Int)),(12, .int .i64 (i.2:Int))]) (fun i=>⟨[bO p,bN f],[]⟩) ?_ (f.params,0) ⟨rfl,h⟩)
 rintro⟨rest,k⟩ ⟨h1,h⟩ IH
 dsimp only at h1 h
 cases rest with
 | nil=>
  have hD:=drop_nil h1
  simp only[yO]at h
  rcases Bool.eq_false_or_eq_true (fC f.vars name)with b1|b1
  ·simp only [b1,if_true]at h
   subst h
   repeat' (first
 |simp only[go_sem,hD,hZ,gA,gB,b1]
 |(with_reducible refine CU (uq _ _) ?_)
 |(with_reducible refine CU (wx _ _) ?_)
 | (with_reducible refine aI hQ ?_;exact bA))
  ·simp only [b1,Bool.false_eq_true,if_false]at h
   rcases Bool.eq_false_or_eq_true (fC p.globals name)with b2|b2
   ·simp only [b2,if_true]at h
    subst h
    repeat' (first
 |simp only[go_sem,hD,hZ,gA,gB,b1,b2]
 |(with_reducible refine CU (uq _ _) ?_)
 |(with_reducible refine CU (wx _ _) ?_)
 | (with_reducible refine aI hQ ?_;exact bA))
   ·simp only [b2,Bool.false_eq_true,if_false]at h
    subst h
    repeat' (first
 |simp only[go_sem,hD,hZ,gA,gB,b1,b2]
 |(with_reducible refine CU (uq _ _) ?_)
 |(with_reducible refine CU (wx _ _) ?_)
 |(with_reducible refine aI hQ ?_;exact bA))
 | cons a rest=>
  obtain⟨hZ,g2,hD,g4⟩:=drop_cons h1
  have cu:k<4611686018427387904:=by omega
  simp only[yO]at h
  rcases Bool.eq_false_or_eq_true (a.name==name)with b1|b1
  ·simp only [b1,if_true]at h
   rcases Bool.eq_false_or_eq_true a.ref with b2|b2
   ·simp only [b2,if_true]at h
    subst h
    repeat' (first
 |simp only[go_sem,hD,hZ,gA,gB,b1,b2]
 | (with_reducible refine aI hQ ?_;exact bA))
   ·simp only [b2,Bool.false_eq_true,if_false]at h
    subst h
    repeat' (first
 |simp only[go_sem,hD,hZ,gA,gB,b1,b2]
 | (with_reducible refine aI hQ ?_;exact bA))
  ·simp only [b1,Bool.false_eq_true,if_false]at h
   repeat' (first
 |simp only[go_sem,hD,hZ,gA,gB,b1]
 | (with_reducible refine aI hQ ?_;exact bA))
   refine fi 2 0 ?_ ?_ (IH (rest,k+1) ⟨g2,h⟩ (Nat.lt_succ_self _))
   ·(simp only[go_sem,hD,hZ,gA,gB,aN cu];try exact bY)
   ·(simp only[go_sem,hD,hZ,gA,gB,aN cu];try exact bY)
def iC (name:aK):List Pc→Option Pc
 | []=>none
 |f::l=>if f.name==name then some f else iC name l
def Pg.find (p:Pg) (name:aK):Option Pc:=iC name p.procs
def pc0:Pc:=⟨[],[],[],[],[]⟩
def auj (r:Option Pc):D:= .tuple [.agg (bN (r.getD pc0)), .bool r.isSome]
set_option maxRecDepth 8000
open Go.Proofs
def Pc.tF (f:Pc):List aK:=f.params.map (·.name)
def Pc.own (f:Pc):List aK:=f.tF++f.vars
theorem acj {f:Pc} (hp:f.params.length<1000000) (hv:f.vars.length<1000000) (s:St):aH Tryz.prog vf [.agg (bN f)] s (.slice .shared 1 (f.own.map encStr)) s:=by
 refine aH.pure ?_ (by simp[D.bM,D.ok,zA]) (by simp only[D.ok,Tag.ok,fI];rfl) s
 generalize hR:f.own=R
 simp only[Pc.own]at hR
 unfold S0
 refine aH.go K3 rfl fun B Q hB hQ=>?_
 have⟨hD,hZ,gA,gB⟩:=bX
 repeat' (first
 |simp only[go_sem,hD,hZ,gA,gB]
 |(with_reducible refine aI hQ ?_;exact bA))
 refine bp.sq 3 1 rfl ?_
 simp only[go_sem,hD,hZ,gA,gB]
 refine fG 1 1 (bp.ind (ι:=List Pm×Nat×List aK×Nat) (fun i=>f.params.drop i.2.1=i.1∧i.2.2.1++i.1.map (·.name)=f.tF∧i.2.2.2=i.2.2.1.length) (fun i=>i.1.length)
  (fun i=> [(1, .ptr 0 0),(3, .slice (.tok 0) 1 (i.2.2.1.map encStr)),(7, .slice .shared 2 (f.params.map iJ)),(8, .int .i64 (f.params.length:Int)),(9, .int .i64 (i.2.1:Int))]) (fun i=>⟨[bN f],[some i.2.2.2]⟩) ?_ (f.params,0,[],0) ⟨rfl,rfl,rfl⟩)
 rintro⟨rest,k,out,n⟩ ⟨h1,h2,h3⟩ IH
 dsimp only at h1 h2 h3
 subst h3
 have hlo:out.length+rest.length<1000000:=by
  have:=congrArg List.length h2
  simp only[List.length_append,List.length_map,Pc.tF]at this
  omega
 cases rest with
 |nil=>
  have hD:=drop_nil h1
  simp only[List.map_nil,List.append_nil]at h2
  subst hR
  rw[← h2]at hQ
  have fl:=lJ (l:=out) (nx:=f.vars) rfl (by omega) (g:= .shared)
  repeat' (first
 |simp only[go_sem,hD,hZ,gA,gB,fl]
 |(with_reducible refine aI hQ ?_;exact bA))
 |cons a rest=>
  obtain⟨hZ,g2,hD,g4⟩:=drop_cons h1
  have cu:k<4611686018427387904:=by omega
  have gA:(out.length+1)*17≤bq:=by unfold bq;omega
  repeat' (first
 |simp only[go_sem,hD,hZ,gA,gB]
 |(with_reducible refine aI hQ ?_;exact bA))
  refine fi 1 1 ?_ ?_ (IH (rest,k+1,out++ [a.name],out.length+1) ⟨g2,by rw[← h2];simp,by simp⟩ (Nat.lt_succ_self _))
  ·(simp only[go_sem,hD,hZ,gA,gB,aN cu,List.map_append,List.map_cons,List.map_nil,encStr];try exact bY)
  ·(simp only[go_sem,hD,hZ,gA,gB,aN cu,List.map_append,List.map_cons,List.map_nil,encStr];try exact bY)
def iX:aK:= [109,97,105,110]
def Sm.known (p:Pg) (f:Pc) (procs:List aK) (v:Sm):Bool:=
 !(v.said.any fun n=>f.kQ p n==0) && (v.kind != 4 ||(v.proc != iX && fC procs v.proc))
structure Pc.Small (p:Pg) (f:Pc):Prop where
 par:f.params.length<1000000
 vars:f.vars.length<1000000
 rF:p.globals.length<1000000
def EA (p:Pg) (f:Pc):List aK→Bool
 | []=>true
 |n::l=>if f.kQ p n==0 then false else EA p f l
theorem J2 (p:Pg) (f:Pc) : ∀ l,EA p f l = !(l.any fun n=>f.kQ p n==0)
 | []=>rfl
 |n::l=>by
  simp only[EA,List.any_cons,J2 p f l]
  cases (f.kQ p n==0)<;>simp
theorem Ng (v:Sm) (h:v.oI):v.said.length<3000000:=by
 have : ∀ (l:List Ar) (out:List aK),(Ar.said out l).length≤out.length+2*Ar.a7 l:=by
  intro l
  induction l with
  |nil=>intro out;simp[Ar.said]
  |cons a l ih=>
   intro out
   simp only[Ar.said,Ar.a7]
   refine Nat.le_trans (ih _) ?_
   have:=mh a.x
   have:1≤a.x.size:=by obtain⟨_,_,_,_⟩:=a.x;simp[Ex.size]
   simp only[List.length_append]
   split<;>simp<;>omega
 have h1:=this v.args (v.vi++v.x.names)
 have h2:=mh v.x
 have h3:=h.2.2
 have h4:v.vi.length≤1:=by unfold Sm.vi;split<;>simp
 simp only[List.length_append]at h1
 unfold Sm.said
 omega
theorem aed {p:Pg} {f:Pc} {procs:List aK} {v:Sm} (hs:f.Small p) (yP:procs.length<1000000) (hv:v.oI) (s:St):aH Tryz.prog sb [.agg (bO p), .agg (bN f), .slice .shared 1 (procs.map encStr), .agg (bd v)] s (.bool (v.known p f procs)) s:=by
 refine aH.pure ?_ (by simp[D.bM,D.ok,iy,zA,pz,Tag.ok,fI]) rfl s
 have hn:=fun s=>DI hv s
 have hk:=fun n s=>Nf (p:=p) (f:=f) (by have:=hs.par;omega) (by have:=hs.vars;omega) (by have:=hs.rF;omega) n s
 have ahQ:=kv (l:=procs) (by omega) v.proc
 have hl:=Ng v hv
 generalize h:v.known p f procs=q
 simp only[Sm.known, ← J2]at h
 unfold S0
 refine aH.go Hi rfl fun B Q hB hQ=>?_
 have⟨hD,hZ,gA,gB⟩:=bX
 repeat' (first
 |simp only[go_sem,hD,hZ,gA,gB]
 |(with_reducible refine CU (hn _) ?_)
 |(with_reducible refine aI hQ ?_;exact bA))
 refine fG 3 0 (bp.ind (ι:=List aK×Nat) (fun i=>v.said.drop i.2=i.1∧(EA p f i.1 && (v.kind != 4 ||(v.proc != iX && fC procs v.proc)))=q) (fun i=>i.1.length)
  (fun i=> [(2, .slice .shared 1 (procs.map encStr)),(4, .ptr 0 0),(5, .ptr 1 0),(7, .ptr 2 0),(12, .slice .shared 1 (v.said.map encStr)),(13, .int .i64 (v.said.length:Int)),(14, .int .i64 (i.2:Int))]) (fun i=>⟨[bO p,bN f,bd v],[]⟩) ?_ (v.said,0) ⟨rfl,h⟩)
 rintro⟨rest,k⟩ ⟨h1,h⟩ IH
 dsimp only at h1 h
 cases rest with
 | nil=>
  have hD:=drop_nil h1
  simp only[EA,Bool.true_and]at h
  rcases Bool.eq_false_or_eq_true (v.kind != 4)with b1|b1
  ·simp only [b1,Bool.true_or]at h
   subst h
   repeat' (first
 |simp only[go_sem,hD,hZ,gA,gB,b1]
 | (with_reducible refine aI hQ ?_;exact bA))
  ·simp only [b1,Bool.false_or]at h
   rcases Bool.eq_false_or_eq_true (v.proc != iX)with b2|b2
   ·simp only [b2,Bool.true_and]at h
    unfold iX at b2
    have b3:(v.proc == [109,97,105,110]) = !(v.proc != [109,97,105,110]):=by simp only[bne,Bool.not_not]
    rw[b2]at b3
    simp only[Bool.not_true,Bool.not_false]at b3
    subst h
    repeat' (first
 |simp only[go_sem,hD,hZ,gA,gB,b1,b2,b3]
 |(with_reducible refine CU (ahQ _ _) ?_)
 | (with_reducible refine aI hQ ?_;exact bA))
   ·simp only [b2,Bool.false_and]at h
    unfold iX at b2
    have b3:(v.proc == [109,97,105,110]) = !(v.proc != [109,97,105,110]):=by simp only[bne,Bool.not_not]
    rw[b2]at b3
    simp only[Bool.not_true,Bool.not_false]at b3
    subst h
    repeat' (first
 |simp only[go_sem,hD,hZ,gA,gB,b1,b2,b3]
 |(with_reducible refine CU (ahQ _ _) ?_)
 |(with_reducible refine aI hQ ?_;exact bA))
 | cons a rest=>
  obtain⟨hZ,g2,hD,g4⟩:=drop_cons h1
  have cu:k<4611686018427387904:=by omega
  simp only[EA]at h
  rcases Bool.eq_false_or_eq_true (f.kQ p a==0)with b1|b1
  ·simp only [b1,if_true,Bool.false_and]at h
   subst h
   repeat' (first
 |simp only[go_sem,hD,hZ,gA,gB,b1]
 |(with_reducible refine CU (hk _ _) ?_)
 | (with_reducible refine aI hQ ?_;exact bA))
  ·simp only [b1,Bool.false_eq_true,if_false]at h
   repeat' (first
 |simp only[go_sem,hD,hZ,gA,gB,b1]
 |(with_reducible refine CU (hk _ _) ?_)
 | (with_reducible refine aI hQ ?_;exact bA))
   refine fi 3 0 ?_ ?_ (IH (rest,k+1) ⟨g2,h⟩ (Nat.lt_succ_self _))
   ·(simp only[go_sem,hD,hZ,gA,gB,aN cu];try exact bY)
   ·(simp only[go_sem,hD,hZ,gA,gB,aN cu];try exact bY)
theorem P3 : ∀ (l pre:List aK),rS pre l=true↔(∃ x∈l,x∈pre)∨¬ l.Nodup
 | [],pre=>by simp[rS]
 | s::l,pre=>by
  simp only[rS]
  by_cases h:fC pre s=true
  ·simp only [h,if_true,true_iff]
   exact .inl ⟨s,List.mem_cons_self,(fy _ _).1 h⟩
  ·have h':s∉pre:=fun m=>h ((fy _ _).2 m)
   simp only[h,if_false,Bool.false_eq_true]
   rw[P3 l (pre++ [s])]
   simp only[List.mem_append,List.mem_singleton,List.mem_cons,List.nodup_cons,exists_eq_or_imp]
   constructor
   ·rintro(⟨x,m,h1 | h1⟩ | h1)
    ·exact .inl (.inr ⟨x,m,h1⟩)
    ·have h1:x=s:=by simpa using h1
     subst h1;exact .inr fun h=>h.1 m
    ·exact .inr fun h=>h1 h.2
   ·rintro((h1 | ⟨x,m,h1⟩) | h1)
    ·exact absurd h1 h'
    ·exact .inl ⟨x,m, .inl h1⟩
    ·by_cases m:s∈l
     ·exact .inl ⟨s,m, .inr (.inl rfl)⟩
     ·exact .inr fun h=>h1 ⟨m,h⟩
theorem pe (l:List aK):fv l=true↔¬ l.Nodup:=by
 unfold fv;rw[P3];simp
theorem V9 (a b:List aK):fv (a++b)=(fv a ||(fv b ||b.any (fC a))):=by
 have h:fv (a++b)=true↔(fv a ||(fv b ||b.any (fC a)))=true:=by
  rw[pe,List.nodup_append]
  simp only[Bool.or_eq_true,pe,List.any_eq_true,fy]
  constructor
  ·intro h
   by_cases ha:a.Nodup
   ·by_cases hb:b.Nodup
    ·refine .inr (.inr (Classical.byContradiction fun hn=>h ⟨ha,hb,fun x hx y hy e=>hn ⟨y,hy,e ▸ hx⟩⟩))
    ·exact .inr (.inl hb)
   ·exact .inl ha
  ·rintro(h | h | ⟨x,h1,h2⟩) ⟨h3,h4,h5⟩
   ·exact h h3
   ·exact h h4
   ·exact h5 x h2 x h1 rfl
 cases h1:fv (a++b)<;>cases h2:(fv a ||(fv b ||b.any (fC a)))<;>simp_all
theorem Nh (name:aK) : ∀ (l:List Pc) (k:Nat),(iC name l=none∧jV name (k:Int) (l.map (·.name)) = -1)∨∃ f j,iC name l=some f∧l[j]? = some f∧jV name (k:Int) (l.map (·.name))=((k+j:Nat):Int)
 | [],k=> .inl ⟨rfl,rfl⟩
 | f::l,k=>by
  by_cases h:f.name=name
  ·subst h
   refine .inr ⟨f,0,by simp[iC],rfl,by simp[jV]⟩
  ·have h1:(f.name==name)=false:=by simp [h]
   have h2:(name==f.name)=false:=by simp[Ne.symm h]
   simp only[iC,h1,Bool.false_eq_true,if_false,List.map_cons,jV,h2]
   rcases Nh name l (k+1)with ⟨g1,g2⟩|⟨g,j,g1,g2,g3⟩
   ·exact .inl ⟨g1,by rw[← g2];rfl⟩
   ·refine .inr ⟨g,j+1,g1,by simpa using g2, ?_⟩
    rw[show((k:Int)+1)=((k+1:Nat):Int)from rfl,g3]
    congr 1;omega
theorem sw {name:aK} {f:Pc} : ∀ {l:List Pc},iC name l=some f→f∈l∧f.name=name
 |g::l,h=>by
  simp only[iC]at h
  split at h
  ·rename_i e;cases h;exact⟨List.mem_cons_self,by simpa using e⟩
  ·have:=sw h;exact⟨List.mem_cons_of_mem _ this.1,this.2⟩
mutual
theorem Wa (deep bW:Int) (aM:Bool) (out:List It) : ∀ s:Sm,∃ e,gL deep bW aM out s=out++e
 | ⟨id,kind,labels,name,proc,x,has,args,aP,e⟩=>by
  simp only[gL]
  split
  ·obtain⟨e1,h1⟩:=qL (deep+1) id false (out++ [⟨⟨id,kind,labels,name,proc,x,has,args,aP,e⟩,deep,bW,aM⟩]) aP
   obtain⟨e2,h2⟩:=qL (deep+1) id true (dO (deep+1) id false (out++ [⟨⟨id,kind,labels,name,proc,x,has,args,aP,e⟩,deep,bW,aM⟩]) aP) e
   rw[h2,h1]
   exact⟨_,by rw[List.append_assoc,List.append_assoc]⟩
  ·exact⟨_,rfl⟩
theorem qL (deep bW:Int) (aM:Bool) (out:List It) : ∀ l:List Sm,∃ e,dO deep bW aM out l=out++e
 | []=>⟨[],by simp[dO]⟩
 | s::l=>by
  simp only[dO]
  split
  ·obtain⟨e1,h1⟩:=Wa deep bW aM out s
   obtain⟨e2,h2⟩:=qL deep bW aM (gL deep bW aM out s) l
   rw[h2,h1]
   exact⟨_,by rw[List.append_assoc]⟩
  ·exact⟨[],by simp⟩
end
mutual
theorem Wb (deep bW:Int) (aM:Bool) (out:List It) : ∀ s:Sm,(gL deep bW aM out s).length≤200→(∀ i∈gL deep bW aM out s,i.deep≤12)→(gL deep bW aM out s).map It.s=out.map It.s++s.pre
 | ⟨id,kind,labels,name,proc,x,has,args,aP,e⟩,h1,h2=>by
  simp only[gL,Sm.pre]at h1 h2 ⊢
  by_cases hd:deep≤12
  ·simp only [hd,decide_true,if_true]at h1 h2 ⊢
   obtain⟨e2,g2⟩:=qL (deep+1) id true (dO (deep+1) id false (out++ [⟨⟨id,kind,labels,name,proc,x,has,args,aP,e⟩,deep,bW,aM⟩]) aP) e
   have k1:(dO (deep+1) id false (out++ [⟨⟨id,kind,labels,name,proc,x,has,args,aP,e⟩,deep,bW,aM⟩]) aP).length≤200:=by
    rw[g2,List.length_append]at h1;omega
   have k2 : ∀ i∈dO (deep+1) id false (out++ [⟨⟨id,kind,labels,name,proc,x,has,args,aP,e⟩,deep,bW,aM⟩]) aP,i.deep≤12:=fun i m=>h2 i (by rw[g2];exact List.mem_append_left _ m)
   rw[yQ (deep+1) id true _ e h1 h2,yQ (deep+1) id false _ aP k1 k2]
   simp
  ·simp only [hd,decide_false,Bool.false_eq_true,if_false]at h1 h2
   exact absurd (h2 _ (List.mem_append_right _ (List.mem_singleton.2 rfl))) (by simpa using hd)
theorem yQ (deep bW:Int) (aM:Bool) (out:List It) : ∀ l:List Sm,(dO deep bW aM out l).length≤200→(∀ i∈dO deep bW aM out l,i.deep≤12)→(dO deep bW aM out l).map It.s=out.map It.s++Sm.cf l
 | [],h1,h2=>by simp[dO,Sm.cf]
 | s::l,h1,h2=>by
  simp only[dO,Sm.cf]at h1 h2 ⊢
  by_cases hc:(out.length:Int)≤200
  ·simp only [hc,decide_true,if_true]at h1 h2 ⊢
   obtain⟨e2,g2⟩:=qL deep bW aM (gL deep bW aM out s) l
   have k1:(gL deep bW aM out s).length≤200:=by rw[g2,List.length_append]at h1;omega
   have k2 : ∀ i∈gL deep bW aM out s,i.deep≤12:=fun i m=>h2 i (by rw[g2];exact List.mem_append_left _ m)
   rw[yQ deep bW aM _ l h1 h2,Wb deep bW aM out s k1 k2]
   simp
  ·simp only [hc,decide_false,Bool.false_eq_true,if_false]at h1
   omega
end
theorem Ni : ∀ (l:List Pc) (out:List It),(allM out l).length≤200→(∀ i∈allM out l,i.deep≤12)→(∀ f∈l,f.flat.map It.s=Sm.cf f.body)∧(allM out l).map It.s=out.map It.s++(l.map fun f=>Sm.cf f.body).flatten
 | [],out,h1,h2=>⟨fun f m=>(by cases m),by simp[allM]⟩
 | f::l,out,h1,h2=>by
  simp only[allM]at h1 h2 ⊢
  by_cases hc:(((out++f.flat).length:Nat):Int) > 200
  ·simp only[hc,decide_true,if_true]at h1;omega
  ·simp only [hc,decide_false,Bool.false_eq_true,if_false]at h1 h2 ⊢
   obtain⟨k1,k2⟩:=Ni l (out++f.flat) h1 h2
   have rH : ∀ (l:List Pc) (out:List It),∃ e,allM out l=out++e:=by
    intro l
    induction l with
    |nil=>intro out;exact⟨[],by simp[allM]⟩
    |cons g l ih=>
     intro out
     simp only[allM]
     split
     ·exact⟨_,rfl⟩
     ·obtain⟨e,h⟩:=ih (out++g.flat);exact⟨g.flat++e,by rw[h];simp⟩
   obtain⟨e,he⟩:=rH l (out++f.flat)
   have k3:f.flat.map It.s=Sm.cf f.body:=by
    have:=yQ 1 0 false [] f.body (by
     have:f.flat.length≤200:=by simp only[List.length_append]at hc;omega
     exact this) (fun i m=>h2 i (by rw[he];exact List.mem_append_left _ (List.mem_append_right _ m)))
    simpa[Pc.flat]using this
   refine⟨fun g m=>?_, ?_⟩
   ·rcases List.mem_cons.1 m with rfl | m
    ·exact k3
    ·exact k1 g m
   ·rw[k2];simp[k3]
theorem yR : ∀ (l:List It) (n:Nat),It.fP n l=true→(∀ i∈l,i.deep≤12)∧∀ (j:Nat) (i:It),l[j]? = some i→i.s.id=((n+j+1:Nat):Int)
 | [],n,h=>⟨fun i m=>(by cases m),fun j i h=>by simp at h⟩
 | a::l,n,h=>by
  simp only[It.fP]at h
  split at h
  ·cases h
  ·rename_i c
   simp only[Bool.or_eq_true,not_or,bne_iff_ne,ne_eq,Decidable.not_not,decide_eq_true_eq,Int.not_lt,gt_iff_lt]at c
   obtain⟨k1,k2⟩:=yR l (n+1) h
   refine⟨fun i m=>?_,fun j i hj=>?_⟩
   ·rcases List.mem_cons.1 m with rfl | m
    ·exact c.1.2
    ·exact k1 i m
   ·cases j with
    |zero=>simp at hj;subst hj;rw[c.1.1]
    |succ j=>simp at hj;rw[k2 j i hj];congr 1;omega
theorem uM {p:Pg} (h:p.may=true):p.all.length≤200∧It.fP 0 p.all=true:=by
 unfold Pg.may at h
 split at h
 ·cases h
 ·split at h
  ·cases h
  ·split at h
   ·cases h
   ·rename_i c
    exact⟨by simp only[decide_eq_true_eq,Int.not_lt,gt_iff_lt]at c;omega,h⟩
theorem Bz {p:Pg} (h:p.may=true):(∀ f∈p.procs,f.flat.map It.s=Sm.cf f.body)∧p.all.map It.s=p.pre:=by
 obtain⟨h1,h2⟩:=uM h
 have:=Ni p.procs [] h1 (yR _ 0 h2).1
 simpa[Pg.pre,Pg.all]using this
theorem xJ {p:Pg} (h:p.may=true) {i:Nat} {v:Sm} (hv:p.pre[i]? = some v):v.id=((i+1:Nat):Int):=by
 rw[← (Bz h).2,List.getElem?_map,Option.map_eq_some_iff]at hv
 obtain⟨it,h1,rfl⟩:=hv
 have:=(yR _ 0 (uM h).2).2 i it h1
 rw[this];congr 1;omega
set_option maxRecDepth 8000
open Go.Proofs
structure Pg.jA (p:Pg):Prop where
 Ti:p.Ls
 sz:p.size≤900000
mutual
theorem ahR : ∀ s:Sm,s.yI→s.size<1000000→∀ v∈s.pre,v.oI∧v.wh
 |⟨id,kind,labels,name,proc,x,has,args,aP,aM⟩,h,hs,v,m=>by
  simp only[Sm.yI]at h
  simp only[Sm.size]at hs
  simp only[Sm.pre,List.mem_cons,List.mem_append]at m
  rcases m with rfl|m|m
  ·exact⟨⟨h.1.xt,fun a ha=>(h.1.arg a ha).2.1,by dsimp only;omega⟩,h.1⟩
  ·exact EB aP h.2.1 (by omega) v m
  ·exact EB aM h.2.2 (by omega) v m
theorem EB : ∀ l:List Sm,Sm.lA l→Sm.a7 l<1000000→∀ v∈Sm.cf l,v.oI∧v.wh
 | [],h,hs,v,m=>by simp[Sm.cf]at m
 |s::l,h,hs,v,m=>by
  simp only[Sm.lA]at h
  simp only[Sm.a7]at hs
  simp only[Sm.cf,List.mem_append]at m
  rcases m with m|m
  ·exact ahR s h.1 (by omega) v m
  ·exact EB l h.2 (by omega) v m
end
theorem Pg.jA.said {p:Pg} (h:p.jA) {f:Pc} (hf:f∈p.procs) : ∀ v∈Sm.cf f.body,v.oI:=fun v m=>by
 have h1:=Pc.da hf
 have h2:=h.sz
 simp only[Pg.size]at h2
 simp only[Pc.size]at h1
 exact(EB f.body (h.Ti.body f hf) (by omega) v m).1
theorem Pg.jA.small {p:Pg} (h:p.jA) {f:Pc} (hf:f∈p.procs):f.Small p:=by
 have h1:=Pc.da hf
 have h2:=h.sz
 simp only[Pg.size]at h2
 simp only[Pc.size]at h1
 exact⟨by omega,by omega,by omega⟩
theorem Pg.jA.procs {p:Pg} (h:p.jA):p.procs.length≤900000∧Pc.a7 p.procs≤900000∧p.globals.length≤900000:=by
 have h2:=h.sz
 have h3:=Pc.dQ p.procs
 simp only[Pg.size]at h2
 omega
def Pg.pn (p:Pg):List aK:=p.procs.map (·.name)
def zR (p:Pg) (f:Pc) (procs:List aK):List Sm→Option Sm
 | []=>none
 |v::l=>if v.known p f procs then zR p f procs l else some v
def tG (p:Pg) (procs:List aK):List Pc→Int×Int
 | []=>(0,0)
 |f::l=>if fv (p.globals++f.own)then(5,0)else match zR p f procs (Sm.cf f.body)with|some v=>(5,v.id)|none=>tG p procs l
def Pg.oK (p:Pg):Bool:=match p.find iX with|none=>true|some m=>decide ((m.params.length:Int) > 0)
def Pg.scope (p:Pg):Int×Int:=
 if p.may then if fv p.globals ||(fv p.pn ||p.oK)then(5,0)else tG p p.pn p.procs else(1,0)
theorem ZE (p:Pg) (hl:p.globals.length<1000000) (n:aK):aH Tryz.prog qk ([.str n]++ [.ptr 0 0]) ⟨[bO p],[]⟩ (.bool (fC p.globals n)) ⟨[bO p],[]⟩:=by
 show aH Tryz.prog qk [.str n, .ptr 0 0] _ _ _
 have rf:=kv (l:=p.globals) (by omega) n
 refine aH.go EZ rfl fun B Q hB hQ=>?_
 have⟨hD,hZ,gA,gB⟩:=bX
 repeat' (first
 |simp only[go_sem,hD,hZ,gA,gB]
 |(with_reducible refine CU (rf _ _) ?_)
 |(with_reducible refine aI hQ ?_;exact bA))
theorem ack (n m:Nat) (p:Pg):D.iD n m (gj p)=gj p:=jg n m _ (wi p)
attribute [go_sem] ack
theorem aee {p:Pg} {f:Pc} {procs:List aK} {v:Sm} (hs:f.Small p) (yP:procs.length<1000000) (hv:v.oI) (g:Tag) (s:St):aH Tryz.prog sb [.agg (bO p), .agg (bN f), .slice g 1 (procs.map encStr), .agg (bd v)] s (.bool (v.known p f procs)) s:=
 bV.qA (.cons (Wk.refl _) (.cons (Wk.refl _) (.cons (Wk.shared g 1 _) (kh.refl _)))) (aed hs yP hv s)
theorem xK {p:Pg} (h:p.jA) (s:St):aH Tryz.prog np [.agg (bO p)] s (.agg [.int .i64 p.scope.1, .int .i64 p.scope.2]) s:=by
 refine aH.pure ?_ (by simp[D.bM,D.ok,iy]) rfl s
 have hm:=fun s=>M9 h.Ti s
 simp only[Ez]at hm
 obtain⟨ui,rn,tD⟩:=h.procs
 have dA:=fun s=>Ev (p:=p) (by omega) s
 have ri:=fun s=>F3 (l:=p.globals) (by omega) .shared s
 have P4:p.pn.length=p.procs.length:=by simp[Pg.pn]
 have GQ:=fun g s=>F3 (l:=p.pn) (by omega) g s
 have Nj:=fun g s=>(Ew (l:=p.pn) (by omega) iX s).wk1 (Wk.shared g 1 (p.pn.map encStr))
 have F4:=fun g s=>(show aH Tryz.prog gY [.slice g 1 (p.pn.map encStr), .str [109,97,105,110]] s (.int .i64 (jV iX 0 p.pn)) s from Nj g s)
 generalize hR:p.scope=R
 simp only[Pg.scope]at hR
 unfold S0
 rcases Bool.eq_false_or_eq_true p.may with hb|hb
 case inr=>
  simp only[hb]at hm
  simp only[hb,Bool.false_eq_true,if_false]at hR
  subst hR
  refine aH.go yC rfl fun B Q hB hQ=>?_
  have⟨hD,hZ,gA,gB⟩:=bX
  repeat' (first
 |simp only[go_sem,hD,hZ,gA,gB]
 |(with_reducible refine CU (hm _) ?_)
 |(with_reducible refine aI hQ ?_;exact bA))
 simp only[hb]at hm
 simp only[hb,if_true]at hR
 refine aH.go yC rfl fun B Q hB hQ=>?_
 have⟨hD,hZ,gA,gB⟩:=bX
 repeat' (first
 |simp only[go_sem,hD,hZ,gA,gB]
 |(with_reducible refine CU (hm _) ?_)
 |(with_reducible refine aI hQ ?_;exact bA))
 refine bp.sq 3 1 rfl ?_
 simp only[go_sem,hD,hZ,gA,gB]
 refine fG 2 1 (bp.ind (ι:=List Pc×Nat×List aK×Nat) (fun i=>p.procs.drop i.2.1=i.1∧i.2.2.1++i.1.map (·.name)=p.pn∧i.2.2.2=i.2.2.1.length) (fun i=>i.1.length)
  (fun i=> [(1, .ptr 0 0),(2, .ptr 1 0),(3, .slice (.tok 0) 1 (i.2.2.1.map encStr)),(18, .slice .shared 5 (p.procs.map bN)),(19, .int .i64 (p.procs.length:Int)),(20, .int .i64 (i.2.1:Int))]) (fun i=>⟨[bO p,[.int .i64 0, .int .i64 0]],[some i.2.2.2]⟩) ?_ (p.procs,0,[],0) ⟨rfl,rfl,rfl⟩)
 rintro⟨rest,k,out,n⟩ ⟨h1,h2,h3⟩ IH
 dsimp only at h1 h2 h3
 subst h3
 have hlo:out.length+rest.length≤900000:=by
  have:=congrArg List.length h2
  simp only[List.length_append,List.length_map]at this
  omega
 cases rest with
 |cons a rest=>
  obtain⟨hZ,g2,hD,g4⟩:=drop_cons h1
  have cu:k<4611686018427387904:=by omega
  have gA:(out.length+1)*17≤bq:=by unfold bq;omega
  repeat' (first
 |simp only[go_sem,hD,hZ,gA,gB]
 |(with_reducible refine aI hQ ?_;exact bA))
  refine fi 2 1 ?_ ?_ (IH (rest,k+1,out++ [a.name],out.length+1) ⟨g2,by rw[← h2];simp,by simp⟩ (Nat.lt_succ_self _))
  ·(simp only[go_sem,hD,hZ,gA,gB,aN cu,List.map_append,List.map_cons,List.map_nil,encStr];try exact bY)
  ·(simp only[go_sem,hD,hZ,gA,gB,aN cu,List.map_append,List.map_cons,List.map_nil,encStr];try exact bY)
 | nil=>
  have hD:=drop_nil h1
  simp only[List.map_nil,List.append_nil]at h2
  subst h2
  rcases Bool.eq_false_or_eq_true (fv p.globals)with b1|b1
  ·simp only [b1,Bool.true_or,if_true]at hR
   subst hR
   repeat' (first
 |simp only[go_sem,hD,hZ,gA,gB,b1]
 |(with_reducible refine CU (F4 _ _) ?_)
 |(with_reducible refine CU (ri _) ?_)
 |(with_reducible refine CU (GQ _ _) ?_)
 | (with_reducible refine aI hQ ?_;exact bA))
  rcases Bool.eq_false_or_eq_true (fv p.pn)with b2|b2
  ·simp only [b1,b2,Bool.true_or,Bool.or_true,if_true]at hR
   subst hR
   repeat' (first
 |simp only[go_sem,hD,hZ,gA,gB,b1,b2]
 |(with_reducible refine CU (F4 _ _) ?_)
 |(with_reducible refine CU (ri _) ?_)
 |(with_reducible refine CU (GQ _ _) ?_)
 | (with_reducible refine aI hQ ?_;exact bA))
  rcases Nh iX p.procs 0 with ⟨e1,e2⟩|⟨m,j,e1,e2,e3⟩
  ·have b3:p.oK=true:=by unfold Pg.oK Pg.find;rw [e1]
   have hi:jV iX 0 p.pn = -1:=e2
   simp only[b1,b2,b3,Bool.or_true,if_true]at hR
   subst hR
   simp only[hi]at F4
   have d1:decide ((-1:Int)<0)=true:=by decide
   repeat' (first
 |simp only[go_sem,hD,hZ,gA,gB,b1,b2,d1]
 |(with_reducible refine CU (F4 _ _) ?_)
 |(with_reducible refine CU (ri _) ?_)
 |(with_reducible refine CU (GQ _ _) ?_)
 | (with_reducible refine aI hQ ?_;exact bA))
  have hi:jV iX 0 p.pn=((j:Nat):Int):=by rw[show p.pn=p.procs.map (·.name)from rfl];simpa using e3
  simp only[hi]at F4
  have d1:decide (((j:Nat):Int)<0)=false:=by simp
  have hj:j<p.procs.length:=(List.getElem?_eq_some_iff.1 e2).1
  have b3:p.oK=decide ((m.params.length:Int) > 0):=by unfold Pg.oK Pg.find;rw[e1]
  rw[b3]at hR
  rcases Bool.eq_false_or_eq_true (decide ((m.params.length:Int) > 0))with b4|b4
  ·simp only [b1,b2,b4,Bool.or_true,if_true]at hR
   subst hR
   repeat' (first
 |simp only[go_sem,hD,hZ,gA,gB,b1,b2,d1,e2,b4]
 |(with_reducible refine CU (F4 _ _) ?_)
 |(with_reducible refine CU (ri _) ?_)
 |(with_reducible refine CU (GQ _ _) ?_)
 |(with_reducible refine aI hQ ?_;exact bA))
  simp only[b1,b2,b4,Bool.or_false,Bool.false_eq_true,if_false]at hR
  repeat' (first
 |simp only[go_sem,hD,hZ,gA,gB,b1,b2,d1,e2,b4]
 |(with_reducible refine CU (F4 _ _) ?_)
 |(with_reducible refine CU (ri _) ?_)
 |(with_reducible refine CU (GQ _ _) ?_)
 |(with_reducible refine CU (dA _) ?_)
 | (with_reducible refine aI hQ ?_;exact bA))
  refine fG 2 1 (bp.ind (ι:=List Pc×Nat) (fun i=>p.procs.drop i.2=i.1∧tG p p.pn i.1=R) (fun i=>i.1.length)
   (fun i=> [(1, .ptr 0 0),(2, .ptr 1 0),(3, .slice (.tok 0) 1 (p.pn.map encStr)),(7, .dR (gj p) 0),(57, .slice .shared 5 (p.procs.map bN)),(58, .int .i64 (p.procs.length:Int)),(59, .int .i64 (i.2:Int))]) (fun i=>⟨[bO p,[.int .i64 0, .int .i64 0]],[some p.pn.length]⟩) ?_ (p.procs,0) ⟨rfl,hR⟩)
  clear IH h1 hD hR
  rintro⟨rest,k⟩ ⟨h1,hR⟩ IH
  dsimp only at h1 hR
  cases rest with
  |nil=>
   have hD:=drop_nil h1
   simp only[tG]at hR
   subst hR
   repeat' (first
 |simp only[go_sem,hD,hZ,gA,gB]
 | (with_reducible refine aI hQ ?_;exact bA))
  | cons f rest=>
   obtain⟨hZ,g2,hD,g4⟩:=drop_cons h1
   have cu:k<4611686018427387904:=by omega
   have Cu:=List.mem_of_getElem? hZ
   have xL:=h.small Cu
   have Wc:=fun s=>acj (f:=f) xL.par xL.vars s
   have jy:f.own.length<4611686018427387904:=by have h1:=xL.par;have h2:=xL.vars;unfold Pc.own Pc.tF;simp;omega
   have PQ:=fun s=>F3 (l:=f.own) jy .shared s
   have Fk:=fun {s:St} {o:Nat} (ho:s.al[o]? = some (bO p))=>AR (l:=f.own) jy (f:=qk) (row:=bO p) (b:=fC p.globals) (iy p) (by with_unfolding_all rfl) (fun x _=>ZE p xL.rF x) ho
   have ZF:=fun {s:St} {o:Nat} (ho:s.al[o]? = some (bO p))=>(show aH Tryz.prog gZ [.slice .shared 1 (f.own.map encStr), .ij 130 [.ptr o 0]] s (.bool (f.own.any (fC p.globals))) s from Fk ho)
   simp only[tG,V9,b1,Bool.false_or]at hR
   rcases Bool.eq_false_or_eq_true (fv f.own)with c1|c1
   ·simp only [c1,Bool.true_or,if_true]at hR
    subst hR
    repeat' (first
 |simp only[go_sem,hD,hZ,gA,gB,c1]
 |(with_reducible refine CU (Wc _) ?_)
 |(with_reducible refine CU (PQ _) ?_)
 |(with_reducible refine CU (ZF (by with_unfolding_all rfl)) ?_)
 | (with_reducible refine aI hQ ?_;exact bA))
   rcases Bool.eq_false_or_eq_true (f.own.any (fC p.globals))with c2|c2
   ·simp only [c1,c2,Bool.false_or,if_true]at hR
    subst hR
    repeat' (first
 |simp only[go_sem,hD,hZ,gA,gB,c1,c2]
 |(with_reducible refine CU (Wc _) ?_)
 |(with_reducible refine CU (PQ _) ?_)
 |(with_reducible refine CU (ZF (by with_unfolding_all rfl)) ?_)
 | (with_reducible refine aI hQ ?_;exact bA))
   simp only[c1,c2,Bool.or_self,Bool.false_eq_true,if_false]at hR
   obtain⟨it,rp,yS⟩:=Zl hZ (by omega)
   rw[← rp]at hR
   have ahS:it.length≤900000:=by
    have e:=congrArg List.length rp
    have e2:=(kJ p).2 k f hZ
    obtain⟨a,b,e',_,_,e3,e4⟩:=e2
    have e5:=qJ p
    have e6:=congrArg List.length e3
    rw[e4]at e5
    simp only[List.length_map,List.length_append]at e e5 e6
    omega
   repeat' (first
 |simp only[go_sem,hD,hZ,gA,gB,c1,c2]
 |(with_reducible refine CU (Wc _) ?_)
 |(with_reducible refine CU (PQ _) ?_)
 |(with_reducible refine CU (ZF (by with_unfolding_all rfl)) ?_)
 |(with_reducible refine CU (yS _) ?_)
 | (with_reducible refine aI hQ ?_;exact bA))
   obtain⟨q,hq⟩ : ∃ q,zR p f p.pn (it.map Im.s)=q:=⟨_,rfl⟩
   rw[hq]at hR
   refine fG 3 1 (bp.ind (ι:=List Im×Nat) (fun i=>it.drop i.2=i.1∧zR p f p.pn (i.1.map Im.s)=q) (fun i=>i.1.length)
    (fun i=> [(1, .ptr 0 0),(2, .ptr 1 0),(3, .slice (.tok 0) 1 (p.pn.map encStr)),(7, .dR (gj p) 0),(9, .ptr 2 0),(57, .slice .shared 5 (p.procs.map bN)),(58, .int .i64 (p.procs.length:Int)),(59, .int .i64 (k:Int)),(76, .slice .shared 17 (it.map dP)),(77, .int .i64 (it.length:Int)),(78, .int .i64 (i.2:Int))]) (fun i=>⟨[bO p,[.int .i64 0, .int .i64 0],bN f],[some p.pn.length]⟩) ?_ (it,0) ⟨rfl,hq⟩)
   rintro⟨El,n⟩ ⟨j1,j2⟩ IH'
   dsimp only at j1 j2
   have Cg:=hD
   cases El with
   |nil=>
    have att:=drop_nil j1
    simp only[List.map_nil,zR]at j2
    subst j2
    simp only at hR
    repeat' (first
 |simp only[go_sem,hD,hZ,gA,gB,att]
 | (with_reducible refine aI hQ ?_;exact bA))
    refine fi 2 1 ?_ ?_ (IH (rest,k+1) ⟨g2,hR⟩ (Nat.lt_succ_self _))
    ·(simp only[go_sem,hD,hZ,gA,gB,aN cu];try exact bY)
    ·(simp only[go_sem,hD,hZ,gA,gB,aN cu];try exact bY)
   | cons i El=>
    obtain⟨qM,P5,AT,jg4⟩:=drop_cons j1
    have AU:n<4611686018427387904:=by omega
    have Hz:i.s∈Sm.cf f.body:=by rw[← rp];exact List.mem_map_of_mem (List.mem_of_getElem? qM)
    have Wd:=aee (v:=i.s) xL (procs:=p.pn) (by omega) (h.said Cu _ Hz)
    simp only[List.map_cons,zR]at j2
    rcases Bool.eq_false_or_eq_true (i.s.known p f p.pn)with c3|c3
    ·simp only [c3,if_true]at j2
     repeat' (first
 |simp only[go_sem,hD,hZ,gA,gB,AT,qM,c3]
 |(with_reducible refine CU (Wd _ _) ?_)
 | (with_reducible refine aI hQ ?_;exact bA))
     refine fi 3 1 ?_ ?_ (IH' (El,n+1) ⟨P5,j2⟩ (Nat.lt_succ_self _))
     ·(simp only[go_sem,hD,hZ,gA,gB,aN AU];try exact bY)
     ·(simp only[go_sem,hD,hZ,gA,gB,aN AU];try exact bY)
    ·simp only [c3,Bool.false_eq_true,if_false]at j2
     subst j2
     simp only at hR
     subst hR
     repeat' (first
 |simp only[go_sem,hD,hZ,gA,gB,AT,qM,c3]
 |(with_reducible refine CU (Wd _ _) ?_)
 |(with_reducible refine aI hQ ?_;exact bA))
end Go.Abs
namespace Go.Abs
mutual
def Ex.tH:Ex→Prop
 |⟨_,n,_,kids⟩=>n≤9223372036854775807∧Ex.zS kids
def Ex.zS:List Ex→Prop
 | []=>True
 |x::l=>x.tH∧Ex.zS l
end
mutual
def Sm.tH:Sm→Prop
 |⟨_,_,_,_,_,x,_,args,aP,aM⟩=>x.tH∧(∀ a∈args,a.x.tH)∧Sm.zS aP∧Sm.zS aM
def Sm.zS:List Sm→Prop
 | []=>True
 |s::l=>s.tH∧Sm.zS l
end
def Pg.tH (p:Pg):Prop:=∀ f∈p.procs,Sm.zS f.body
theorem J3 {f:Pc} : ∀ {l:List Pc} {n:Nat},Pc.fU n l=true→f∈l→(isName f.name=true∧ew f.vars=true∧ew f.fin=true∧Pm.fP f.params=true)∧∃ n,(Sm.iI 1 n f.body).1=true
 |g::l,n,h,m=>by
  simp only[Pc.fU]at h
  split at h
  ·cases h
  rename_i c1
  split at h
  ·cases h
  rename_i c2
  split at h
  ·cases h
  rename_i c3
  simp only[Bool.or_eq_true,Bool.not_eq_true',not_or,Bool.not_eq_false]at c1 c2 c3
  rcases List.mem_cons.1 m with rfl|m
  ·exact⟨⟨c1.1.1.2,c1.1.2,c1.2,c2⟩,n,c3⟩
  ·exact J3 h m
mutual
theorem Tj : ∀ (s:Sm) (nest:Int) (n:Nat),(Sm.rG nest n s).1=true→s.size<4611686018427387000→s.yI
 |⟨id,kind,labels,name,proc,x,has,args,aP,aM⟩,nest,n,hm,hs=>by
  obtain⟨_,_,h1,h2,h3,_⟩:=J1 hm
  rw[F2]
  rw[(vK h2).2]at h2
  rw[(vK h3).2]at h3
  refine⟨Nc h1 hs,wO aP _ _ h2 ?_,wO aM _ _ h3 ?_⟩<;>simp only[Sm.size]at hs<;>omega
theorem wO : ∀ (l:List Sm) (nest:Int) (n:Nat),(Sm.fU nest n l).1=true→Sm.a7 l<4611686018427387000→Sm.lA l
 | [],_,_,_,_=>by simp only[Sm.lA]
 |s::l,nest,n,hm,hs=>by
  simp only[Sm.fU]at hm
  simp only[Sm.a7]at hs
  split at hm
  ·cases hm
  rename_i hc
  simp only[Bool.not_eq_true',Bool.not_eq_false]at hc
  exact⟨Tj s nest n hc (by omega),wO l nest _ hm (by omega)⟩
end
theorem J4 {p:Pg} (h:p.may=true) (hs:p.size<4611686018427387000):p.Ls:=by
 have hf:=Zy h hs
 rw[← Ez]at h
 unfold Pg.Jb at h
 split at h
 ·cases h
 refine⟨hf.sz,hf.rF,hf.gQ,fun f m=>?_⟩
 obtain⟨_,n,e⟩:=J3 h m
 rw[(vK e).2]at e
 have:=Pc.da m
 simp only[Pg.size]at hs
 exact wO f.body 1 n e (by unfold Pc.size at this;omega)
set_option maxRecDepth 8000
open Go.Proofs
theorem ZG (x:It):(gH x)[1]? = some (.int .i64 x.s.kind):=nd rfl
theorem ZH (x:It):(gH x)[3]? = some (.str x.s.name):=nd rfl
theorem ZI (x:It):(gH x)[4]? = some (.str x.s.proc):=nd rfl
theorem aef (x:It):List.take 16 (gH x)=gH x:=nd rfl
attribute [go_sem] ZG ZH ZI aef
end Go.Abs
namespace Go.Abs
set_option maxRecDepth 8000
open Go.Proofs
def HA:List Pm→List Ar→Bool
 | [],_=>true
 |_,[]=>true
 |a::l,b::m=>if a.ref==b.ref then HA l m else false
def EC (l:List Pm) (m:List Ar):Bool:=if(l.length:Int)==(m.length:Int)then HA l m else false
def Sm.nG (p:Pg) (v:Sm):Bool:=v.kind==4 && match p.find v.proc with|none=>false|some q=>EC q.params v.args
theorem ahT {l:List Pm} {m:List Ar} (hl:l.length<1000000000) (hm:m.length<1000000000) (s:St):aH Tryz.prog xB [.slice .shared 2 (l.map iJ), .slice .shared 6 (m.map fc)] s (.bool (EC l m)) s:=by
 refine aH.pure ?_ (by simp[D.bM,D.ok,Tag.ok,akq,Ln]) rfl s
 generalize h:EC l m=q
 simp only[EC]at h
 unfold S0
 have b0:((l.length:Int) != (m.length:Int)) = !((l.length:Int)==(m.length:Int)):=rfl
 rcases Bool.eq_false_or_eq_true ((l.length:Int)==(m.length:Int))with b1|b1
 case inr=>
  rw[b1]at b0
  simp only[b1,Bool.false_eq_true,if_false]at h
  subst h
  refine aH.go AG rfl fun B Q hB hQ=>?_
  have⟨hD,hZ,gA,gB⟩:=bX
  repeat' (first
 |simp only[go_sem,hD,hZ,gA,gB,b0,Bool.not_false]
 |(with_reducible refine aI hQ ?_;exact bA))
 rw[b1]at b0
 simp only[b1,if_true]at h
 have hlm:l.length=m.length:=by have:=eq_of_beq b1;omega
 refine aH.go AG rfl fun B Q hB hQ=>?_
 have⟨hD,hZ,gA,gB⟩:=bX
 repeat' (first
 |simp only[go_sem,hD,hZ,gA,gB,b0,Bool.not_true]
 |(with_reducible refine aI hQ ?_;exact bA))
 refine fG 0 0 (bp.ind (ι:=List Pm×List Ar×Nat) (fun i=>l.drop i.2.2=i.1∧m.drop i.2.2=i.2.1∧HA i.1 i.2.1=q) (fun i=>i.1.length)
  (fun i=> [(1, .slice .shared 6 (m.map fc)),(12, .slice .shared 2 (l.map iJ)),(13, .int .i64 (l.length:Int)),(14, .int .i64 (i.2.2:Int))]) (fun i=>⟨[],[]⟩) ?_ (l,m,0) ⟨rfl,rfl,h⟩)
 rintro⟨r1,r2,k⟩ ⟨h1,h2,h⟩ IH
 dsimp only at h1 h2 h
 cases r1 with
 |nil=>
  have hD:=drop_nil h1
  simp only[HA]at h
  subst h
  repeat' (first
 |simp only[go_sem,hD,hZ,gA,gB]
 |(with_reducible refine aI hQ ?_;exact bA))
 | cons a r1=>
  obtain⟨hZ,g2,hD,g4⟩:=drop_cons h1
  cases r2 with
  |nil=>have:=List.drop_eq_nil_iff.1 h2;omega
  | cons b r2=>
   obtain⟨hgb,b2,Tk,_⟩:=drop_cons h2
   have cu:k<4611686018427387904:=by omega
   simp only[HA]at h
   have w1:(true==true)=true:=rfl
   have w2:(false==false)=true:=rfl
   have w3:(true==false)=false:=rfl
   have w4:(false==true)=false:=rfl
   have v1:(true != true)=false:=rfl
   have v2:(false != false)=false:=rfl
   have v3:(true != false)=true:=rfl
   have v4:(false != true)=true:=rfl
   rcases Bool.eq_false_or_eq_true a.ref with ea|ea
   ·rcases Bool.eq_false_or_eq_true b.ref with eb | eb
    ·simp only [ea,eb,w1,w2,if_true]at h
     repeat' (first
 |simp only[go_sem,hD,hZ,gA,gB,hgb,Tk,ea,eb,w1,w2,v1,v2]
 | (with_reducible refine aI hQ ?_;exact bA))
     refine fi 0 0 ?_ ?_ (IH (r1,r2,k+1) ⟨g2,b2,h⟩ (Nat.lt_succ_self _))
     ·(simp only[go_sem,hD,hZ,gA,gB,aN cu];try exact bY)
     ·(simp only[go_sem,hD,hZ,gA,gB,aN cu];try exact bY)
    ·simp only [ea,eb,w3,w4,Bool.false_eq_true,if_false]at h
     subst h
     repeat' (first
 |simp only[go_sem,hD,hZ,gA,gB,hgb,Tk,ea,eb,w3,w4,v3,v4]
 | (with_reducible refine aI hQ ?_;exact bA))
   ·rcases Bool.eq_false_or_eq_true b.ref with eb | eb
    ·simp only [ea,eb,w3,w4,Bool.false_eq_true,if_false]at h
     subst h
     repeat' (first
 |simp only[go_sem,hD,hZ,gA,gB,hgb,Tk,ea,eb,w3,w4,v3,v4]
 | (with_reducible refine aI hQ ?_;exact bA))
    ·simp only [ea,eb,w1,w2,if_true]at h
     repeat' (first
 |simp only[go_sem,hD,hZ,gA,gB,hgb,Tk,ea,eb,w1,w2,v1,v2]
 |(with_reducible refine aI hQ ?_;exact bA))
     refine fi 0 0 ?_ ?_ (IH (r1,r2,k+1) ⟨g2,b2,h⟩ (Nat.lt_succ_self _))
     ·(simp only[go_sem,hD,hZ,gA,gB,aN cu];try exact bY)
     ·(simp only[go_sem,hD,hZ,gA,gB,aN cu];try exact bY)
theorem ahU {p:Pg} {v:Sm} (h:p.jA) (hv:v.oI) (s:St):aH Tryz.prog xx [.agg (bO p), .agg (bd v)] s (.bool (v.nG p)) s:=by
 refine aH.pure ?_ (by simp[D.bM,D.ok,iy,pz]) rfl s
 obtain⟨ui,rn,tD⟩:=h.procs
 have sJ:v.args.length<1000000000:=by have:=Ar.dQ v.args;have:=hv.2.2;omega
 generalize hR:v.nG p=R
 simp only[Sm.nG]at hR
 unfold S0
 have b0:(v.kind != 4) = !(v.kind==4):=rfl
 rcases Bool.eq_false_or_eq_true (v.kind==4)with b1|b1
 case inr=>
  rw[b1]at b0
  simp only[b1,Bool.false_and]at hR
  subst hR
  refine aH.go AJ rfl fun B Q hB hQ=>?_
  have⟨hD,hZ,gA,gB⟩:=bX
  repeat' (first
 |simp only[go_sem,hD,hZ,gA,gB,b0,Bool.not_false]
 |(with_reducible refine aI hQ ?_;exact bA))
 rw[b1]at b0
 simp only[b1,Bool.true_and,Pg.find]at hR
 refine aH.go AJ rfl fun B Q hB hQ=>?_
 have⟨hD,hZ,gA,gB⟩:=bX
 repeat' (first
 |simp only[go_sem,hD,hZ,gA,gB,b0,Bool.not_true]
 |(with_reducible refine aI hQ ?_;exact bA))
 refine fG 2 0 (bp.ind (ι:=List Pc×Nat) (fun i=>p.procs.drop i.2=i.1∧(match iC v.proc i.1 with|none=>false|some q=>EC q.params v.args)=R) (fun i=>i.1.length)
  (fun i=> [(3, .ptr 1 0),(11, .slice .shared 5 (p.procs.map bN)),(12, .int .i64 (p.procs.length:Int)),(13, .int .i64 (i.2:Int))]) (fun i=>⟨[bO p,bd v],[]⟩) ?_ (p.procs,0) ⟨rfl,hR⟩)
 clear hR
 rintro⟨rest,k⟩ ⟨h1,hR⟩ IH
 dsimp only at h1 hR
 cases rest with
 |nil=>
  have hD:=drop_nil h1
  simp only[iC]at hR
  subst hR
  repeat' (first
 |simp only[go_sem,hD,hZ,gA,gB]
 |(with_reducible refine aI hQ ?_;exact bA))
 | cons a rest=>
  obtain⟨hZ,g2,hD,g4⟩:=drop_cons h1
  have cu:k<4611686018427387904:=by omega
  have xL:=h.small (List.mem_of_getElem? hZ)
  have hsa:=fun s=>ahT (l:=a.params) (m:=v.args) (by have:=xL.par;omega) sJ s
  simp only[iC]at hR
  rcases Bool.eq_false_or_eq_true (a.name==v.proc)with c1|c1
  ·simp only [c1,if_true]at hR
   subst hR
   repeat' (first
 |simp only[go_sem,hD,hZ,gA,gB,c1]
 |(with_reducible refine CU (hsa _) ?_)
 | (with_reducible refine aI hQ ?_;exact bA))
  ·simp only [c1,Bool.false_eq_true,if_false]at hR
   repeat' (first
 |simp only[go_sem,hD,hZ,gA,gB,c1]
 | (with_reducible refine aI hQ ?_;exact bA))
   refine fi 2 0 ?_ ?_ (IH (rest,k+1) ⟨g2,hR⟩ (Nat.lt_succ_self _))
   ·(simp only[go_sem,hD,hZ,gA,gB,aN cu];try exact bY)
   ·(simp only[go_sem,hD,hZ,gA,gB,aN cu];try exact bY)
def HC (p:Pg):List Sm→Option Sm
 | []=>none
 |v::l=>if v.kind==4 && !(v.nG p)then some v else HC p l
def rT (c:Int):Option Sm→Int×Int
 |some v=>(c,v.id)
 |none=>(0,0)
def Pg.arity (p:Pg):Int×Int:=if p.scope.1==0 then rT 6 (HC p p.pre)else(1,0)
theorem Pg.jA.pre {p:Pg} (h:p.jA) : ∀ v∈p.pre,v.oI:=fun v m=>by
 simp only[Pg.pre,List.mem_flatten,List.mem_map]at m
 obtain⟨l,⟨f,hf,rfl⟩,m⟩:=m
 exact h.said hf v m
theorem Nk {p:Pg} (h:p.jA) (s:St):aH Tryz.prog sa [.agg (bO p)] s (.agg [.int .i64 p.arity.1, .int .i64 p.arity.2]) s:=by
 refine aH.pure ?_ (by simp[D.bM,D.ok,iy]) rfl s
 obtain⟨ui,rn,tD⟩:=h.procs
 have rf:=fun s=>xK h s
 have dA:=fun s=>Ev (p:=p) (by omega) s
 have hL:=(kJ p).1
 have yT:=qJ p
 generalize hR:p.arity=R
 simp only[Pg.arity]at hR
 unfold S0
 have b0:(p.scope.1 != 0) = !(p.scope.1==0):=rfl
 rcases Bool.eq_false_or_eq_true (p.scope.1==0)with b1|b1
 case inr=>
  rw[b1]at b0
  simp only[b1,Bool.false_eq_true,if_false]at hR
  subst hR
  refine aH.go yD rfl fun B Q hB hQ=>?_
  have⟨hD,hZ,gA,gB⟩:=bX
  repeat' (first
 |simp only[go_sem,hD,hZ,gA,gB,b0,Bool.not_false]
 |(with_reducible refine CU (rf _) ?_)
 |(with_reducible refine aI hQ ?_;exact bA))
 rw[b1]at b0
 simp only[b1,if_true, ← hL]at hR
 refine aH.go yD rfl fun B Q hB hQ=>?_
 have⟨hD,hZ,gA,gB⟩:=bX
 repeat' (first
 |simp only[go_sem,hD,hZ,gA,gB,b0,Bool.not_true,pE]
 |(with_reducible refine CU (rf _) ?_)
 |(with_reducible refine CU (dA _) ?_)
 |(with_reducible refine aI hQ ?_;exact bA))
 refine fG 2 0 (bp.ind (ι:=List Im×Nat) (fun i=>p.aZ.L.drop i.2=i.1∧rT 6 (HC p (i.1.map Im.s))=R) (fun i=>i.1.length)
  (fun i=> [(1, .ptr 0 0),(2, .ptr 1 0),(14, .slice .shared 17 (p.aZ.L.map dP)),(15, .int .i64 (p.aZ.L.length:Int)),(16, .int .i64 (i.2:Int))]) (fun i=>⟨[bO p,[.int .i64 0, .int .i64 0]],[]⟩) ?_ (p.aZ.L,0) ⟨rfl,hR⟩)
 clear hR
 rintro⟨rest,k⟩ ⟨h1,hR⟩ IH
 dsimp only at h1 hR
 cases rest with
 |nil=>
  have hD:=drop_nil h1
  simp only[List.map_nil,HC,rT]at hR
  subst hR
  repeat' (first
 |simp only[go_sem,hD,hZ,gA,gB]
 |(with_reducible refine aI hQ ?_;exact bA))
 | cons a rest=>
  obtain⟨hZ,g2,hD,g4⟩:=drop_cons h1
  have cu:k<4611686018427387904:=by omega
  have Hz:a.s∈p.pre:=by rw[← hL];exact List.mem_map_of_mem (List.mem_of_getElem? hZ)
  have P6:=fun s=>ahU h (h.pre _ Hz) s
  simp only[List.map_cons,HC]at hR
  rcases Bool.eq_false_or_eq_true (a.s.kind==4)with c1|c1
  ·rcases Bool.eq_false_or_eq_true (a.s.nG p)with c2 | c2
   ·simp only [c1,c2,Bool.not_true,Bool.and_false,Bool.false_eq_true,if_false]at hR
    repeat' (first
 |simp only[go_sem,hD,hZ,gA,gB,c1,c2]
 |(with_reducible refine CU (P6 _) ?_)
 | (with_reducible refine aI hQ ?_;exact bA))
    refine fi 2 0 ?_ ?_ (IH (rest,k+1) ⟨g2,hR⟩ (Nat.lt_succ_self _))
    ·(simp only[go_sem,hD,hZ,gA,gB,aN cu];try exact bY)
    ·(simp only[go_sem,hD,hZ,gA,gB,aN cu];try exact bY)
   ·simp only [c1,c2,Bool.not_false,Bool.and_true,if_true,rT]at hR
    subst hR
    repeat' (first
 |simp only[go_sem,hD,hZ,gA,gB,c1,c2]
 |(with_reducible refine CU (P6 _) ?_)
 | (with_reducible refine aI hQ ?_;exact bA))
  ·simp only [c1,Bool.false_and,Bool.false_eq_true,if_false]at hR
   repeat' (first
 |simp only[go_sem,hD,hZ,gA,gB,c1]
 |(with_reducible refine CU (P6 _) ?_)
 | (with_reducible refine aI hQ ?_;exact bA))
   refine fi 2 0 ?_ ?_ (IH (rest,k+1) ⟨g2,hR⟩ (Nat.lt_succ_self _))
   ·(simp only[go_sem,hD,hZ,gA,gB,aN cu];try exact bY)
   ·(simp only[go_sem,hD,hZ,gA,gB,aN cu];try exact bY)
theorem DM {p:Pg} (h:(p.scope.1==0)=true):p.may=true:=by
 unfold Pg.scope at h
 split at h
 ·assumption
 ·cases h
def oM (out:List aK):List aK→aK→Bool→aK×Bool
 | [],c,a=>(c,a)
 |s::l,c,a=>if !(fC out s) && (!a ||bytesLess s c)then oM out l s true else oM out l c a
def Wf (l out:List aK):List aK:=if(oM out l [] false).2 then out++ [(oM out l [] false).1]else out
def qZ (l:List aK):Nat→List aK→List aK
 | 0,out=>out
 |n+1,out=>qZ l n (Wf l out)
def lj (l:List aK):List aK:=qZ l l.length []
end Go.Abs
namespace Go.Proofs
open Go.Shelf
def Tryz.Pk:Go.Shelf.Ren:=⟨fun| 190=>173| 125=>194| 258=>193| 128=>217| 129=>218| 302=>208| 303=>209| 304=>210| 305=>211| 306=>212| 307=>213| 308=>214| 309=>215| 310=>216| 333=>224| 329=>225| 330=>226| 334=>227| 335=>228| 336=>229| 344=>230|n=>n,fun| 31=>22| 9=>9| 3=>3| 46=>208| 0=>0| 51=>227| 53=>194| 4=>4| 183=>220| 182=>219| 131=>139| 5=>5| 218=>231| 222=>235| 228=>237| 229=>238|n=>n,fun|n=>n⟩
theorem Tryz.P7:Go.Proofs.Lays.n190 Tryz.prog Tryz.Pk:= {
 mixed:=by kernel_rfl
 f125:=Tryz.func194.trans (congrArg some (by kernel_rfl))
 f128:=Tryz.func217.trans (congrArg some (by kernel_rfl))
 f129:=Tryz.func218.trans (congrArg some (by kernel_rfl))
 f190:=Tryz.func173.trans (congrArg some (by kernel_rfl))
 f258:=Tryz.func193.trans (congrArg some (by kernel_rfl))
 f302:=Tryz.func208.trans (congrArg some (by kernel_rfl))
 f303:=Tryz.func209.trans (congrArg some (by kernel_rfl))
 f304:=Tryz.func210.trans (congrArg some (by kernel_rfl))
 f305:=Tryz.func211.trans (congrArg some (by kernel_rfl))
 f306:=Tryz.func212.trans (congrArg some (by kernel_rfl))
 f307:=Tryz.func213.trans (congrArg some (by kernel_rfl))
 f308:=Tryz.func214.trans (congrArg some (by kernel_rfl))
 f309:=Tryz.func215.trans (congrArg some (by kernel_rfl))
 f310:=Tryz.func216.trans (congrArg some (by kernel_rfl))
 f329:=Tryz.func225.trans (congrArg some (by kernel_rfl))
 f330:=Tryz.func226.trans (congrArg some (by kernel_rfl))
 f333:=Tryz.func224.trans (congrArg some (by kernel_rfl))
 f334:=Tryz.func227.trans (congrArg some (by kernel_rfl))
 f335:=Tryz.func228.trans (congrArg some (by kernel_rfl))
 f336:=Tryz.func229.trans (congrArg some (by kernel_rfl))
 f344:=Tryz.func230.trans (congrArg some (by kernel_rfl))
 t0:=Tryz.underlying0
 a0:=Tryz.isAgg0
 z0:=Tryz.sizeOf0
 v0:=Tryz.zeroValue0
 t3:=Tryz.underlying3
 a3:=Tryz.isAgg3
 z3:=Tryz.sizeOf3
 v3:=Tryz.zeroValue3
 t4:=Tryz.underlying4
 a4:=Tryz.isAgg4
 z4:=Tryz.sizeOf4
 v4:=Tryz.zeroValue4
 t5:=Tryz.underlying5
 a5:=Tryz.isAgg5
 z5:=Tryz.sizeOf5
 v5:=Tryz.zeroValue5
 t9:=Tryz.underlying9
 a9:=Tryz.isAgg9
 z9:=Tryz.sizeOf9
 v9:=Tryz.zeroValue9
 t31:=Tryz.underlying22
 a31:=Tryz.isAgg22
 z31:=Tryz.sizeOf22
 v31:=Tryz.zeroValue22
 t46:=Tryz.underlying208
 a46:=Tryz.isAgg208
 z46:=Tryz.sizeOf208
 v46:=Tryz.zeroValue208
 t51:=Tryz.underlying227
 a51:=Tryz.isAgg227
 z51:=Tryz.sizeOf227
 v51:=Tryz.zeroValue227
 t53:=Tryz.underlying194
 a53:=Tryz.isAgg194
 z53:=Tryz.sizeOf194
 v53:=Tryz.zeroValue194
 t131:=Tryz.underlying139
 a131:=Tryz.isAgg139
 z131:=Tryz.sizeOf139
 v131:=Tryz.zeroValue139
 t182:=Tryz.underlying219
 a182:=Tryz.isAgg219
 z182:=Tryz.sizeOf219
 v182:=Tryz.zeroValue219
 t183:=Tryz.underlying220
 a183:=Tryz.isAgg220
 z183:=Tryz.sizeOf220
 v183:=Tryz.zeroValue220
 t218:=Tryz.underlying231
 a218:=Tryz.isAgg231
 z218:=Tryz.sizeOf231
 v218:=Tryz.zeroValue231
 t222:=Tryz.underlying235
 a222:=Tryz.isAgg235
 z222:=Tryz.sizeOf235
 v222:=Tryz.zeroValue235
 t228:=Tryz.underlying237
 a228:=Tryz.isAgg237
 z228:=Tryz.sizeOf237
 v228:=Tryz.zeroValue237
 t229:=Tryz.underlying238
 a229:=Tryz.isAgg238
 z229:=Tryz.sizeOf238
 v229:=Tryz.zeroValue238}
open Go.Sort Go.RowKit in
theorem Tryz.slices_Sort_string (DN off cap:Nat) (ss:List (List UInt8)) (w:World) (hH:Holds encStr w DN off ss.toArray) (atu:DN<w.heap.size) (dU:ss.length<4611686018427387904) :
 Calls Tryz.prog 173 #[.slice (some ⟨DN,off,none⟩) ss.length cap] w fun e w'=>
  e = .returned (.tuple #[])∧∃ n os,w'=grow (putRow encStr (Sort.ahead w n) DN off (ss.mergeSort fun x y=>decide (x≤y)).toArray) os:=Any.slices_Sort_string Tryz.P7 DN off cap ss w hH atu dU
def Tryz.Pl:Go.Shelf.Ren:=⟨fun| 194=>174|n=>n,fun| 31=>22| 9=>9| 3=>3| 4=>4| 0=>0|n=>n,fun|n=>n⟩
theorem Tryz.P8:Go.Proofs.Lays.n194 Tryz.prog Tryz.Pl:= {
 mixed:=by kernel_rfl
 f194:=Tryz.func174.trans (congrArg some (by kernel_rfl))
 t0:=Tryz.underlying0
 a0:=Tryz.isAgg0
 z0:=Tryz.sizeOf0
 v0:=Tryz.zeroValue0
 t3:=Tryz.underlying3
 a3:=Tryz.isAgg3
 z3:=Tryz.sizeOf3
 v3:=Tryz.zeroValue3
 t4:=Tryz.underlying4
 a4:=Tryz.isAgg4
 z4:=Tryz.sizeOf4
 v4:=Tryz.zeroValue4
 t9:=Tryz.underlying9
 a9:=Tryz.isAgg9
 z9:=Tryz.sizeOf9
 v9:=Tryz.zeroValue9
 t31:=Tryz.underlying22
 a31:=Tryz.isAgg22
 z31:=Tryz.sizeOf22
 v31:=Tryz.zeroValue22}
open Go.RowKit Go.Lib Go.Sort in
theorem Tryz.slices_Compact_string (DN off cap:Nat) (zs:List (List UInt8)) (w:World) (hH:Holds encStr w DN off zs.toArray) (dU:zs.length≤9223372036854775807) (vT:zs.length≤cap) :
 Calls Tryz.prog 174 #[.slice (some ⟨DN,off,none⟩) zs.length cap] w fun e w'=>e = .returned (.slice (some ⟨DN,off,none⟩) (Lib.compact zs).length cap)∧∃ q,w'=putRow encStr (Sort.ahead w q) DN off (Lib.compact zs++List.replicate (zs.length - (Lib.compact zs).length) []).toArray:=Any.slices_Compact_string Tryz.P8 DN off cap zs w hH dU vT
open Go.RowKit Go.Lib Go.Sort in
theorem Tryz.slices_Compact_string_empty (a:Option Addr) (cap:Nat) (w:World) :
 Calls Tryz.prog 174 #[.slice a 0 cap] w fun e w'=>e = .returned (.slice a 0 cap)∧w'=w:=Any.slices_Compact_string_empty Tryz.P8 a cap w
open Go.RowKit Go.Sort in
theorem Tryz.slices_Sort_string_none (p:Option Addr) (cap:Nat) (w:World) :
 Calls Tryz.prog 173 #[.slice p 0 cap] w fun e w'=>e = .returned (.tuple #[])∧w'=w:=Any.slices_Sort_string_none Tryz.P7 p cap w
end Go.Proofs
namespace Go.Abs
open Go.Proofs
section
variable {P:Program} {B:gW} {nt:Nat}
theorem aeg {x:Operand} {t:Nat} (h:cX x=some (.s t)):x = .tmp t:=by
 unfold cX at h
 split at h
 ·cases h;rfl
 ·obtain⟨d,_,h⟩:=map_some h;cases h
 ·cases h
 ·cases h
theorem Tn {ops:Array Oper} {o:Oper} {g g':Option (Nat×Bool)} {dst:Option Nat} {f:Nat} {xs:List X} (h:uU P ops o g=some (.call dst g' f xs)) :
 g'=g∧∃ args nY,o.op = .call ⟨.value (.func f),args,nY⟩∧enters P f=true∧Ae args.toList=some xs:=by
 unfold uU at h
 split at h
 ·rename_i f' args nY nX
  split at h
  ·rename_i he
   obtain⟨xs',h1,h2⟩:=map_some h
   cases h2
   exact⟨rfl,args,nY,nX,he,h1⟩
  ·cases h
 ·obtain⟨_,_,h⟩:=map_some h;cases h
 ·split at h
  ·cases h
  ·split at h<;>cases h
theorem Wg {ops:Array Oper} {o:Oper} {tmps:Array Value} (hg:w9 ops o.guard=some none):Region.wanted o (yielded ops tmps)=true:=by
 have:o.guard=none:=by
  cases Jy:o.guard with
  |none=>rfl
  |some p=>
   obtain⟨j,b⟩:=p
   rw[Jy]at hg
   unfold w9 at hg
   simp only at hg
   split at hg<;>cases hg
 simp[Region.wanted,this]
theorem Sem.ahW {a k b f:Nat} {is:List AI} {Q:Exit→Tm→St→Prop} {tm:Tm} {s:St}
 (To : ∀ act w,Holds B nt (tm.put (some a) (tm.get k)) s act w→Calls P f #[act.tmps.getD a Go.undef] w fun e w'=>∃ v,e = .returned v∧∃ bJ s',Holds B nt bJ s' (act.put (some b) v) w'∧jR P is (Q .normal) bJ s') :
 Sem P B nt (.run (.op (some a) none (.mv (.s k)):: .call (some b) none f [.s a]::is)) Q tm s:=by
 intro c hc act w hh
 obtain⟨id,ops,rfl,hi⟩:=mJ hc
 refine wp_region ?_
 have key : ∀ (l:List Nat) (ol:List Oper),l.map (ops[·]?)=ol.map some→sS P nt ops ol=some (.op (some a) none (.mv (.s k)):: .call (some b) none f [.s a]::is)→wpOps P ops (rA B nt Q) l act w:=by
  intro l ol hl zw
  match ol,l,hl with
  | [],_,_=>simp[sS]at zw
  |o0::ol,[],hl=>simp at hl
  | o0::ol,j0::l,hl=>
   simp only[List.map_cons,List.cons.injEq]at hl
   obtain⟨hj0,hl⟩:=hl
   unfold sS at zw
   split at zw
   ·rename_i i0 is0 h1 h2
    cases zw
    match ol,l,hl,h2 with
    | [],_,_,h2=>simp[sS]at h2
    |o1::ol,[],hl,_=>simp at hl
    | o1::ol,j1::l,hl,h2=>
     simp only[List.map_cons,List.cons.injEq]at hl
     obtain⟨hj1,hl⟩:=hl
     unfold sS at h2
     split at h2
     ·rename_i i1 is1 h3 h4
      cases h2
      obtain⟨M,e,r,ht,hn,hd⟩:=hh
      have yH:=vB h1
      have Dq:=vB h3
      simp only[AI.dst]at yH Dq
      refine zv (K':=fun bJ s'=>bJ=tm.put (some a) (tm.get k)∧s'=s) hj0 h1 r (B.laid.ext e) ht (by simp only[jR,guarded,aV,X.ev,and_self]) (fun d v s1 w1 M1 hk e1 r1 hv=>?_)
      obtain⟨yk,rfl⟩:=hk
      have hH:=Holds.put e ht hn hd (An h1) e1 r1 hv
      simp only[AI.dst]at yk
      rw[← yH]at hH ⊢
      rw[yk]at hH
      obtain⟨g,hg,_,hb⟩:=Dk h3
      obtain⟨rfl,args,nY,nX,Ba,qg⟩:=Tn hb
      simp only[wpOps,hj1,Wg hg,if_true]
      left
      have atv:args.map (act.put (some a) v).eval = #[(act.put (some a) v).tmps.getD a Go.undef]:=by
       have:args.toList = [.tmp a]:=by
        match hA:args.toList with
        | []=>rw[hA]at qg;simp[Ae]at qg
        | [x]=>
         rw[hA]at qg
         simp only[Ae]at qg
         split at qg
         ·rename_i x' r' hx hr
          cases qg
          rw[aeg hx]
         ·cases qg
        | x::y::z=>
         rw[hA]at qg
         simp only[Ae]at qg
         split at qg
         ·rename_i x' r' hx hr
          cases qg
          split at hr
          ·cases hr
          ·cases hr
         ·cases qg
       have:args = #[.tmp a]:=by rw[← Array.toArray_toList (xs:=args),this]
       rw[this]
       simp only[List.map_toArray,List.map_cons,List.map_nil]
       rfl
      have hex:(execOp (act.put (some a) v).eval o1).run P w1 = .ok (.enter f #[(act.put (some a) v).tmps.getD a Go.undef]) w1:=by
       obtain⟨dst,op,type,pos,after,guard⟩:=o1
       simp only at nX
       subst nX
       rw[← atv]
       exact zp (act.put (some a) v).eval dst f args nY type pos after guard rfl Ba w1
      unfold Oper.wp
      rw[hex,Oper.upon_enter]
      refine(To _ _ hH).mono ?_
      rintro en w' ⟨v',rfl,bJ,s',hH',hvc⟩
      rw[← Dq]
      exact Dg (Q:=Q) l ol _ hl h4 bJ s' _ w' hvc hH'
     ·cases h2
   ·cases zw
 exact key _ _ (Dh ops) hi
theorem J5 (hB:B.s = ⟨[],[]⟩) {tm:Tm} {s:St} {act:Act} {w:World} (h:Holds B nt tm s act w) {t:Nat} {l:List aK} (ht:s.aA[t]? = some (some l.length)) {k0:Nat} (hk0:tm.get k0 = .slice (.tok t) 1 (l.map encStr)) :
 (l = []∧∀ k,tm.get k = .slice (.tok t) 1 (l.map encStr)→(act.tmps.getD k Go.undef = .slice none 0 0∨∃ b q,act.tmps.getD k Go.undef = .slice (some ⟨b,q,none⟩) 0 0))∨
 ∃ (b cap:Nat) (vs:Array Value) (T:TypeId),(∀ k,tm.get k = .slice (.tok t) 1 (l.map encStr)→act.tmps.getD k Go.undef = .slice (some ⟨b,0,none⟩) l.length cap)∧l.length≤cap∧w.heap[b]? = some (.cells vs T (0,0))∧vs.size=cap∧B.w.heap.size≤b∧
  ∀ j (hj:j<l.length),vs[j]? = some (.string ⟨⟨l[j]⟩⟩):=by
 obtain⟨M,e,r,hr,_,_⟩:=h
 rcases r.tok t _ ht with ⟨h3,h4⟩|⟨b,cap,z,vs,T,h3,h4,h5,h6,h7⟩
 ·have hl:l = []:=List.eq_nil_of_length_eq_zero h4
  subst hl
  refine .inl ⟨rfl,fun k hk=>?_⟩
  have hv:=hr k
  rw[hk]at hv
  generalize act.tmps.getD k Go.undef=v at hv
  cases hv with
  |jE _ _ cap hc ri=>subst hc;exact .inl rfl
  |slice _ _ _ b q cap hl hs h1 h2 ri=>
   rcases(ri.2 _ ht).2 rfl with ⟨_,h0,_⟩|⟨b',_,lL⟩
   ·subst h0;exact .inr ⟨b,q,rfl⟩
   ·rw[h3]at lL;cases lL
 ·right
  have each : ∀ k,tm.get k = .slice (.tok t) 1 (l.map encStr)→z=1∧act.tmps.getD k Go.undef = .slice (some ⟨b,0,none⟩) l.length cap∧l.length≤cap∧∀ j (hj:j<l.length),∃ u,M.G b j=some u∧RD M s (.str l[j]) u:=by
   intro k hk
   have hv:=hr k
   rw[hk]at hv
   generalize act.tmps.getD k Go.undef=v at hv
   generalize lf:l.map encStr=rows at hv
   cases hv with
   |jE _ _ cap hc ri=>
    have hl:l = []:=by cases l<;>simp at lf;rfl
    subst hl
    rcases(ri.2 _ ht).2 rfl with ⟨h0,_⟩|⟨b',h0,_⟩
    ·rw[h3]at h0;cases h0
    ·cases h0
   | slice _ _ _ b2 q aBF hl hs h1 h2 ri=>
    subst lf
    rw[List.length_map]at hl ri
    rcases(ri.2 _ ht).2 rfl with ⟨h0,_⟩|⟨b',hb,lL⟩
    ·rw[h3]at h0;cases h0
    ·cases hb
     rw[h3]at lL
     cases lL
     refine⟨rfl,by rw[List.length_map],hl,fun j hj=>?_⟩
     have e1:(l.map encStr)[j]? = some [.str l[j]]:=by rw[List.getElem?_map,List.getElem?_eq_getElem hj];rfl
     obtain⟨u,hu⟩:=h1 j _ 0 _ e1 rfl
     refine⟨u,by simpa using hu,h2 j _ 0 _ u e1 rfl hu⟩
  obtain⟨rfl,_,vT,nC⟩:=each k0 hk0
  have dA:B.w.heap.size≤b:=by
   rcases e.rr t b cap 1 ⟨_,ht⟩ h3 with ⟨⟨n,hn⟩,_⟩|h
   ·rw[hB]at hn;simp at hn
   ·exact h
  refine⟨b,cap,vs,T,fun k hk=>(each k hk).2.1,vT,h4,by simpa[zs]using h5,dA,fun j hj=>?_⟩
  obtain⟨u,hu,jF⟩:=nC j hj
  have:=(r.comm _ _ _ hu).1
  rw[jw h4,jF.my]at this
  exact this
theorem Nl (hB:B.s = ⟨[],[]⟩) {tm:Tm} {s:St} {act wj:Act} {w w':World} (h:Holds B nt tm s act w) {b cap:Nat} {vs:Array Value} {T:TypeId} (dU:vs.size=cap) (vb:B.w.heap.size≤b)
 (nw : ∀ q,q<B.w.heap.size→w'.heap[q]? = w.heap[q]?) (eJ:w'.heap[b]? = some (.cells vs T (0,0))) (wv:w.heap.size≤w'.heap.size) (um:w'.os=w.os) (GQ:w'.tape=w.tape) (XK:w'.output=w.output)
 {l:List aK} (hl:l.length≤cap) (nC : ∀ j (hj:j<l.length),vs[j]? = some (.string ⟨⟨l[j]⟩⟩)) {k:Nat} (Tp:wj.tmps.getD k Go.undef = .slice (some ⟨b,0,none⟩) l.length cap) (hn:wj.tmps.size=nt) (hd:wj.defers = []) :
 Holds B nt [(k, .slice (.tok 0) 1 (l.map encStr))] ⟨[],[some l.length]⟩ wj w':=by
 obtain⟨M,e,r,hr,_,_⟩:=h
 let M':Map:=⟨fun q o=>if q=b then(if o<l.length then(l[o]?).map fun x=>Value.string ⟨⟨x⟩⟩else none)else B.M.G q o,B.M.loc,fun _=>some (b,cap,1)⟩
 have hGb : ∀ q o v,B.M.G q o=some v→q<B.w.heap.size∧w'.cell? ⟨q,o,none⟩=some v∧v.oneCell'=true:=by
  intro q o v hq
  obtain⟨h1,h2⟩:=r.comm q o v (e.le.G q o v hq)
  have hD:=B.Fa q o v hq
  refine⟨hD, ?_,h2⟩
  rw[← h1]
  simp[World.cell?,nw q hD]
 have iR : ∀ j (hj:j<l.length),w'.cell? ⟨b,j,none⟩=some (.string ⟨⟨l[j]⟩⟩):=fun j hj=>by rw[jw eJ];exact nC j hj
 have hZ : ∀ (j:Nat) v,(if j<l.length then(l[j]?).map fun x=>Value.string ⟨⟨x⟩⟩else none)=some v→∃ hj:j<l.length,v = .string ⟨⟨l[j]⟩⟩:=by
  intro j v hv
  split at hv
  ·rename_i hj
   rw[List.getElem?_eq_getElem hj]at hv
   exact⟨hj,by simpa using hv.symm⟩
  ·cases hv
 refine⟨M',⟨⟨fun q o v hq=>?_,by simp[hB],fun o ho=> .refl _,by rw[hB];exact Nat.zero_le _,fun t n' ht _=>by rw[hB]at ht;exact absurd ht (Nat.not_lt_zero _)⟩,fun q hq _ _=>?_,fun o _ h2=>absurd h2 (Nat.not_lt_zero _),fun t q c z _ hb=>?_,fun q o fk=>?_,Nat.le_trans e.size wv,um.trans e.os,GQ.trans e.tape,XK.trans e.output⟩,
  ⟨fun q o v hq=>?_,fun o ds ho=>by simp at ho,fun o ho=>absurd ho (Nat.not_lt_zero _),fun o o' ho=>absurd ho (Nat.not_lt_zero _),fun t n ht=>?_,fun t q c z o _ _ ho=>absurd ho (Nat.not_lt_zero _),fun t t' q c z c' z' tC je _ _=>?_⟩,fun u=>?_,hn,hd⟩
 ·show(if q=b then _ else B.M.G q o)=some v
  rw[if_neg (by have:=(hGb q o v hq).1;omega)]
  exact hq
 ·rw [nw q hq]
  exact e.kept q hq (fun o ho=>by rw[hB]at ho;exact absurd ho (Nat.not_lt_zero _)) (fun t c z je=>by rw[hB]at je;obtain⟨n,Ct⟩:=je;simp at Ct)
 ·cases hb;exact .inr vb
 ·by_cases hq:q=b
  ·subst hq;exact .inl vb
  ·exact absurd (show(if q=b then _ else B.M.G q o)=B.M.G q o from if_neg hq) fk
 ·have la:(if q=b then(if o<l.length then(l[o]?).map fun x=>Value.string ⟨⟨x⟩⟩else none)else B.M.G q o)=some v:=hq
  by_cases hqb:q=b
  ·rw [if_pos hqb]at la
   obtain⟨hj,rfl⟩:=hZ o v la
   rw[hqb]
   exact⟨iR o hj,rfl⟩
  ·rw [if_neg hqb]at la
   exact(hGb q o v la).2
 ·match t with
  | 0=>
   simp at ht
   subst ht
   refine .inr ⟨b,cap,1,vs,T,rfl,eJ,by simp[zs,dU],hl,fun off ho=>?_,fun h=>by cases h⟩
   show(if b=b then(if off<l.length then _ else none)else B.M.G b off)=none
   rw[if_pos rfl,if_neg (by simp[zs]at ho;omega)]
  |t+1=>simp at ht
 ·obtain⟨n1,h1⟩:=tC
  obtain⟨n2,h2⟩:=je
  have a1:=(List.getElem?_eq_some_iff.1 h1).1
  have a2:=(List.getElem?_eq_some_iff.1 h2).1
  simp at a1 a2
  omega
 ·simp only [Tm.get]
  split
  ·rename_i hku
   subst hku
   rw[Tp]
   have:=RD.slice (M:=M') (s:=⟨[],[some l.length]⟩) (.tok 0) 1 (l.map encStr) b 0 cap (by simpa using hl) (fun row hr=>by
    obtain⟨x,_,rfl⟩:=List.mem_map.1 hr;rfl) (fun i row j d e1 e2=>?_) (fun i row j d u e1 e2 eu=>?_) ⟨by simp,fun n Ct=>by
    simp at Ct
    subst Ct
    exact⟨by simp,fun _=> .inr ⟨b,rfl,rfl⟩⟩⟩
   ·simpa using this
   ·rw [List.getElem?_map]at e1
    cases Cj:l[i]? with
    |none=>rw[Cj]at e1;cases e1
    |some x=>
     have sG:=(List.getElem?_eq_some_iff.1 Cj).1
     rw[Cj]at e1
     cases e1
     have hj:j=0:=by cases j with|zero=>rfl|succ j=>simp[encStr]at e2
     subst hj
     refine⟨.string ⟨⟨x⟩⟩, ?_⟩
     show(if b=b then(if 0+(i*1+0)<l.length then _ else none)else _)=_
     rw[if_pos rfl,if_pos (by omega)]
     simp[Cj]
   ·rw [List.getElem?_map]at e1
    cases Cj:l[i]? with
    |none=>rw[Cj]at e1;cases e1
    |some x=>
     have sG:=(List.getElem?_eq_some_iff.1 Cj).1
     rw[Cj]at e1
     cases e1
     have hj:j=0:=by cases j with|zero=>rfl|succ j=>simp[encStr]at e2
     subst hj
     have Cn:(if b=b then(if 0+(i*1+0)<l.length then(l[0+(i*1+0)]?).map fun x=>Value.string ⟨⟨x⟩⟩else none)else B.M.G b (0+(i*1+0)))=some u:=eu
     rw[if_pos rfl,if_pos (by omega)]at Cn
     simp[Cj]at Cn
     subst Cn
     simp[encStr]at e2
     subst e2
     exact .str x
  ·exact .junk _
theorem P9 (hB:B.s = ⟨[],[]⟩) {tm:Tm} {s:St} {act wj:Act} {w:World} (h:Holds B nt tm s act w) {k:Nat} (Tp:wj.tmps.getD k Go.undef = .slice none 0 0∨∃ b q,wj.tmps.getD k Go.undef = .slice (some ⟨b,q,none⟩) 0 0) (hn:wj.tmps.size=nt) (hd:wj.defers = []) :
 Holds B nt [(k, .slice (.tok 0) 1 (([] : List aK).map encStr))] ⟨[],[some 0]⟩ wj w:=by
 obtain⟨M,e,r,hr,_,_⟩:=h
 let M':Map:=⟨B.M.G,B.M.loc,fun _=>none⟩
 refine⟨M',⟨⟨fun q o v hq=>hq,by simp[hB],fun o ho=> .refl _,by rw[hB];exact Nat.zero_le _,fun t n' ht _=>by rw[hB]at ht;exact absurd ht (Nat.not_lt_zero _)⟩,fun q hq _ _=>?_,fun o _ h2=>absurd h2 (Nat.not_lt_zero _),fun t q c z _ hb=>(by cases hb),fun q o fk=>absurd rfl fk,e.size,e.os,e.tape,e.output⟩,
  ⟨fun q o v hq=>r.comm q o v (e.le.G q o v hq),fun o ds ho=>by simp at ho,fun o ho=>absurd ho (Nat.not_lt_zero _),fun o o' ho=>absurd ho (Nat.not_lt_zero _),fun t n ht=>?_,fun t q c z o _ _ ho=>absurd ho (Nat.not_lt_zero _),fun t t' q c z c' z' tC je h1 _=>by cases h1⟩,fun u=>?_,hn,hd⟩
 ·exact e.kept q hq (fun o ho=>by rw[hB]at ho;exact absurd ho (Nat.not_lt_zero _)) (fun t c z je=>by rw[hB]at je;obtain⟨n,Ct⟩:=je;simp at Ct)
 ·match t with
  | 0=>simp at ht;subst ht;exact .inl ⟨rfl,rfl⟩
  |t+1=>simp at ht
 ·simp only [Tm.get]
  split
  ·rename_i hku
   subst hku
   have ri : ∀ base,jJ M' ⟨[],[some 0]⟩ (.tok 0) 1 0 base 0:=fun base=>⟨by simp,fun n Ct=>by
    simp at Ct
    subst Ct
    exact⟨Nat.le_refl _,fun _=> .inl ⟨rfl,rfl,fun h=>by cases h⟩⟩⟩
   rcases Tp with h|⟨b,q,h⟩
   ·rw[h];exact .jE _ _ 0 rfl (ri none)
   ·rw[h];exact .slice (.tok 0) 1 [] b q 0 (Nat.le_refl _) (by simp) (by simp) (by simp) (ri _)
  ·exact .junk _
theorem Nn {α:Type} [Inhabited α] (enc:α→Value) (d:Array α) (c:Array Value) (j:Nat):(Sort.putCells enc 0 d c)[j]? = if j<d.size then(c[j]?).map fun _=>enc d[j]! else c[j]? :=by
 simp only[Sort.putCells,Array.getElem?_mapIdx]
 cases h:c[j]? with
 |none=>simp
 |some x=>by_cases hj:j<d.size<;>simp[hj]
theorem J6 {w:World} {b n cap:Nat} {vs:Array Value} {T:TypeId} (eJ:w.heap[b]? = some (.cells vs T (0,0))) (dU:vs.size=cap) (l:List aK) (hl:l.length≤cap) (os:Array Obj) :
 (∀ q,q≠b→q<w.heap.size→(Sort.grow (Sort.putRow Go.Proofs.encStr (Sort.ahead w n) b 0 l.toArray) os).heap[q]? = w.heap[q]?)∧
 (Sort.grow (Sort.putRow Go.Proofs.encStr (Sort.ahead w n) b 0 l.toArray) os).heap[b]? = some (.cells (Sort.putCells Go.Proofs.encStr 0 l.toArray vs) T (0,0))∧w.heap.size≤(Sort.grow (Sort.putRow Go.Proofs.encStr (Sort.ahead w n) b 0 l.toArray) os).heap.size∧
 (Sort.putCells Go.Proofs.encStr 0 l.toArray vs).size=cap∧∀ j (hj:j<l.length),(Sort.putCells Go.Proofs.encStr 0 l.toArray vs)[j]? = some (.string ⟨⟨l[j]⟩⟩):=by
 have hb:b<w.heap.size:=(Array.getElem?_eq_some_iff.1 eJ).1
 refine⟨fun q hq hD=>?_, ?_, ?_, ?_,fun j hj=>?_⟩
 ·simp only [Sort.grow,Sort.putRow,Sort.mapBlock,Sort.ahead]
  rw[Array.getElem?_append_left (by simpa using hD),Array.getElem?_modify]
  simp[Ne.symm hq]
 ·simp only [Sort.grow,Sort.putRow,Sort.mapBlock,Sort.ahead]
  rw[Array.getElem?_append_left (by simpa using hb),Array.getElem?_modify]
  simp[eJ,Sort.onCells]
 ·simp[Sort.grow,Sort.putRow,Sort.mapBlock,Sort.ahead]
 ·simp[Sort.putCells,dU]
 ·rw [Nn]
  have h1:j<l.toArray.size:=by simpa using hj
  have h2:vs[j]? = some vs[j]:=Array.getElem?_eq_getElem (by omega)
  rw[if_pos h1,h2]
  simp[hj]
def nH (l:List aK):List aK:=l.mergeSort fun x y=>decide (x≤y)
theorem No {act:Act} {b:Nat} {v:Value} {u:Nat} (h:u≠b):(act.put (some b) v).tmps.getD u Go.undef=act.tmps.getD u Go.undef:=by
 simp only[Act.put,Array.getD_eq_getD_getElem?]
 rw[Array.getElem?_setIfInBounds_ne (fun e=>h e.symm)]
theorem J7 {act:Act} {b:Nat} {v:Value} (h:b<act.tmps.size):(act.put (some b) v).tmps.getD b Go.undef=v:=by
 simp only[Act.put,Array.getD_eq_getD_getElem?]
 simp[h]
theorem Sem.sort (hB:B.s = ⟨[],[]⟩) {a k b t:Nat} {l:List aK} {is:List AI} {Q:Exit→Tm→St→Prop} {tm:Tm} {s:St} (hak:a≠k) (hbk:b≠k) (hab:a≠b)
 (hk:tm.get k = .slice (.tok t) 1 (l.map encStr)) (ht:s.aA[t]? = some (some l.length)) (hl:l.length<4611686018427387904)
 (h:jR Tryz.prog is (Q .normal) [(k, .slice (.tok 0) 1 ((nH l).map encStr))] ⟨[],[some l.length]⟩) :
 Sem Tryz.prog B nt (.run (.op (some a) none (.mv (.s k)):: .call (some b) none kq [.s a]::is)) Q tm s:=by
 refine Sem.ahW fun act w hh=>?_
 have Ce:(tm.put (some a) (tm.get k)).get k = .slice (.tok t) 1 (l.map encStr):=by rw[Tm.mA,if_neg (by simpa using hak)];exact hk
 have Np:(tm.put (some a) (tm.get k)).get a = .slice (.tok t) 1 (l.map encStr):=by rw[Tm.mA,if_pos rfl];exact hk
 have HD:(nH l).length=l.length:=List.length_mergeSort l
 have hn:(act.put (some b) (.tuple #[])).tmps.size=nt:=by obtain⟨_,_,_,_,h1,_⟩:=hh;simpa[Act.put]using h1
 have hd:(act.put (some b) (.tuple #[])).defers = []:=by obtain⟨_,_,_,_,_,h1⟩:=hh;simpa[Act.put]using h1
 have dU:(act.tmps).size=nt:=by obtain⟨_,_,_,_,h1,_⟩:=hh;exact h1
 rcases J5 hB hh ht Np with ⟨rfl,hv⟩|⟨b',cap,vs,T,hv,vT,eJ,qv,vb,nC⟩
 ·rw [show nH [] = [] by simp [nH]]at h
  have call : ∀ p,act.tmps.getD a Go.undef = .slice p 0 0→Calls Tryz.prog kq #[act.tmps.getD a Go.undef] w fun e w'=>∃ v,e = .returned v∧∃ bJ s',Holds B nt bJ s' (act.put (some b) v) w'∧jR Tryz.prog is (Q .normal) bJ s':=by
   intro p hp
   rw[hp]
   refine(Tryz.slices_Sort_string_none p 0 w).mono ?_
   rintro e w' ⟨rfl,rfl⟩
   refine⟨_,rfl,_,_,P9 hB hh (k:=k) ?_ hn hd,h⟩
   rw[No (Ne.symm hbk)]
   exact hv k Ce
  rcases hv a Np with h1|⟨b',q,h1⟩
  ·exact call _ h1
  ·exact call _ h1
 ·rw [hv a Np]
  have hD:b'<w.heap.size:=(Array.getElem?_eq_some_iff.1 eJ).1
  refine(Tryz.slices_Sort_string b' 0 cap l w (fun j hj=>?_) hD hl).mono ?_
  ·have Wh:j<l.length:=by simpa using hj
   refine⟨?_,by simp[World.frozen?,eJ]⟩
   rw[Nat.zero_add,jw eJ,nC j Wh]
   simp[Wh]
  ·rintro e w' ⟨rfl,n,os,rfl⟩
   obtain⟨p1,p2,p3,p4,p5⟩:=J6 (n:=n) eJ qv (nH l) (by omega) os
   have hH:=Nl hB hh (wj:=act.put (some b) (.tuple #[])) (l:=nH l) (k:=k) p4 vb (fun q hq=>p1 q (by omega) (by obtain⟨M,e,_⟩:=hh;exact Nat.lt_of_lt_of_le hq e.size)) p2 p3 rfl rfl rfl (by omega) p5 (by rw[No (Ne.symm hbk),hv k Ce,HD]) hn hd
   rw[HD]at hH
   exact⟨_,rfl,_,_,hH,h⟩
theorem Pn (l:List aK):(Lib.compact l).length≤l.length:=by
 unfold Lib.compact Lib.compactUpTo
 rw[List.length_map]
 exact Nat.le_trans (List.length_filter_le _ _) (by simp)
theorem Sem.compact (hB:B.s = ⟨[],[]⟩) {a k b t:Nat} {l:List aK} {is:List AI} {Q:Exit→Tm→St→Prop} {tm:Tm} {s:St} (hbt:b<nt)
 (hk:tm.get k = .slice (.tok t) 1 (l.map encStr)) (ht:s.aA[t]? = some (some l.length)) (hl:l.length<4611686018427387904)
 (h:jR Tryz.prog is (Q .normal) [(b, .slice (.tok 0) 1 ((Lib.compact l).map encStr))] ⟨[],[some (Lib.compact l).length]⟩) :
 Sem Tryz.prog B nt (.run (.op (some a) none (.mv (.s k)):: .call (some b) none kP [.s a]::is)) Q tm s:=by
 refine Sem.ahW fun act w hh=>?_
 have Np:(tm.put (some a) (tm.get k)).get a = .slice (.tok t) 1 (l.map encStr):=by rw[Tm.mA,if_pos rfl];exact hk
 have dU:(act.tmps).size=nt:=by obtain⟨_,_,_,_,h1,_⟩:=hh;exact h1
 have hn : ∀ v,(act.put (some b) v).tmps.size=nt:=fun v=>by simpa[Act.put]using dU
 have hd : ∀ v,(act.put (some b) v).defers = []:=by obtain⟨_,_,_,_,_,h1⟩:=hh;intro v;simpa[Act.put]using h1
 rcases J5 hB hh ht Np with ⟨rfl,hv⟩|⟨b',cap,vs,T,hv,vT,eJ,qv,vb,nC⟩
 ·rw [show Lib.compact ([] : List aK) = []from rfl]at h
  have call : ∀ p,act.tmps.getD a Go.undef = .slice p 0 0→(p=none∨∃ b q,p=some ⟨b,q,none⟩)→Calls Tryz.prog kP #[act.tmps.getD a Go.undef] w fun e w'=>∃ v,e = .returned v∧∃ bJ s',Holds B nt bJ s' (act.put (some b) v) w'∧jR Tryz.prog is (Q .normal) bJ s':=by
   intro p hp hq
   rw[hp]
   refine(Tryz.slices_Compact_string_empty p 0 w).mono ?_
   rintro e w' ⟨rfl,rfl⟩
   refine⟨_,rfl,_,_,P9 hB hh (k:=b) ?_ (hn _) (hd _),h⟩
   rw[J7 (by omega)]
   rcases hq with rfl|⟨x,y,rfl⟩
   ·exact .inl rfl
   ·exact .inr ⟨x,y,rfl⟩
  rcases hv a Np with h1|⟨b',q,h1⟩
  ·exact call _ h1 (.inl rfl)
  ·exact call _ h1 (.inr ⟨b',q,rfl⟩)
 ·rw [hv a Np]
  have ou:(Lib.compact l).length≤l.length:=Pn l
  refine(Tryz.slices_Compact_string b' 0 cap l w (fun j hj=>?_) (by omega) vT).mono ?_
  ·have Wh:j<l.length:=by simpa using hj
   refine⟨?_,by simp[World.frozen?,eJ]⟩
   rw[Nat.zero_add,jw eJ,nC j Wh]
   simp[Wh]
  ·rintro e w' ⟨rfl,q,rfl⟩
   obtain⟨p1,p2,p3,p4,p5⟩:=J6 (n:=q) eJ qv (Lib.compact l++List.replicate (l.length - (Lib.compact l).length) []) (by simp;omega) #[]
   rw[Sort.grow_empty]at p1 p2 p3
   have hH:=Nl hB hh (wj:=act.put (some b) (.slice (some ⟨b',0,none⟩) (Lib.compact l).length cap)) (l:=Lib.compact l) (k:=b) p4 vb (fun q hq=>p1 q (by omega) (by obtain⟨M,e,_⟩:=hh;exact Nat.lt_of_lt_of_le hq e.size)) p2 p3 rfl rfl rfl (by omega)
    (fun j hj=>by
     have:=p5 j (by simp;omega)
     rw[List.getElem_append_left hj]at this
     exact this) (J7 (by omega)) (hn _) (hd _)
   exact⟨_,rfl,_,_,hH,h⟩
end
end Go.Abs
namespace Go.Abs
theorem HE {a b:UInt8} : a<b↔a.toNat<b.toNat:=UInt8.lt_iff_toNat_lt
theorem AV : ∀ a:aK,bytesLess a a=false
 | []=>rfl
 |x::a=>by
  show Go.Op.bytesLess (x::a) (x::a)=false
  have h:=AV a
  have h:Go.Op.bytesLess a a=false:=h
  simp[Go.Op.bytesLess,h]
theorem AW : ∀ a b:aK,bytesLess a b=true∨a=b∨bytesLess b a=true
 | [],[]=> .inr (.inl rfl)
 | [],y::b=> .inl rfl
 |x::a,[]=> .inr (.inr rfl)
 | x::a,y::b=>by
  show Go.Op.bytesLess (x::a) (y::b)=true∨_∨Go.Op.bytesLess (y::b) (x::a)=true
  have h:Go.Op.bytesLess a b=true∨a=b∨Go.Op.bytesLess b a=true:=AW a b
  simp only[Go.Op.bytesLess,Bool.or_eq_true,Bool.and_eq_true,decide_eq_true_eq,beq_iff_eq,List.cons.injEq]
  by_cases e:x=y
  ·subst e
   rcases h with h|h|h
   ·exact .inl (.inr ⟨rfl,h⟩)
   ·exact .inr (.inl ⟨rfl,h⟩)
   ·exact .inr (.inr (.inr ⟨rfl,h⟩))
  ·have:x.toNat≠y.toNat:=fun h=>e (UInt8.toNat_inj.1 h)
   rcases Nat.lt_or_gt_of_ne this with h|h
   ·exact .inl (.inl (HE.2 h))
   ·exact .inr (.inr (.inl (HE.2 h)))
theorem HF : ∀ a b c:aK,bytesLess a b=true→bytesLess b c=true→bytesLess a c=true
 |a,b,[],h1,h2=>by cases b<;>cases h2
 |a,[],z::c,h1,h2=>by cases a<;>cases h1
 | [],y::b,z::c,h1,h2=>rfl
 | x::a,y::b,z::c,h1,h2=>by
  have h1:Go.Op.bytesLess (x::a) (y::b)=true:=h1
  have h2:Go.Op.bytesLess (y::b) (z::c)=true:=h2
  show Go.Op.bytesLess (x::a) (z::c)=true
  simp only[Go.Op.bytesLess,Bool.or_eq_true,Bool.and_eq_true,decide_eq_true_eq,beq_iff_eq]at h1 h2 ⊢
  rcases h1 with e1|⟨i1,e1⟩
  ·rcases h2 with e2 | ⟨i2,e2⟩
   ·exact .inl (HE.2 (Nat.lt_trans (HE.1 e1) (HE.1 e2)))
   ·exact .inl (i2 ▸ e1)
  ·rcases h2 with e2 | ⟨i2,e2⟩
   ·exact .inl (i1 ▸ e2)
   ·exact .inr ⟨i1.trans i2,HF a b c e1 e2⟩
def DO (l:List aK):Prop:=l.Pairwise fun a b=>bytesLess a b=true
theorem zT : ∀ {a b:List aK},DO a→DO b→(∀ x,x∈a↔x∈b)→a=b
 | [],[],_,_,_=>rfl
 | [],y::b,_,_,h=>absurd ((h y).2 List.mem_cons_self) (by simp)
 |x::a,[],_,_,h=>absurd ((h x).1 List.mem_cons_self) (by simp)
 | x::a,y::b,h1,h2,h=>by
  obtain⟨g1,g2⟩:=List.pairwise_cons.1 h1
  obtain⟨g3,g4⟩:=List.pairwise_cons.1 h2
  have e:x=y:=by
   rcases List.mem_cons.1 ((h x).1 List.mem_cons_self)with e|m
   ·exact e
   ·rcases List.mem_cons.1 ((h y).2 List.mem_cons_self)with e | m'
    ·exact e.symm
    ·have:=HF _ _ _ (g3 x m) (g1 y m');rw[AV]at this;cases this
  subst e
  rw[zT g2 g4 fun z=>?_]
  constructor
  ·intro m
   rcases List.mem_cons.1 ((h z).1 (List.mem_cons_of_mem _ m))with e|m'
   ·subst e;have:=g1 z m;rw[AV]at this;cases this
   ·exact m'
  ·intro m
   rcases List.mem_cons.1 ((h z).2 (List.mem_cons_of_mem _ m))with e|m'
   ·subst e;have:=g3 z m;rw[AV]at this;cases this
   ·exact m'
theorem wP (out:List aK) : ∀ (l:List aK) (c:aK) (a:Bool),
 let q:=oM out l c a
 (q.2=false↔a=false∧∀ x∈l,x∈out)∧(q.2=true→((a=true∧q.1=c)∨(q.1∈l∧q.1∉out))∧(a=true→bytesLess c q.1=false)∧∀ x∈l,x∉out→bytesLess x q.1=false)
 | [],c,a=>by
  simp only[oM]
  refine⟨by simp,fun h=>⟨.inl ⟨h,by trivial⟩,fun _=>AV c,fun x m=>(by cases m)⟩⟩
 | s::l,c,a=>by
  simp only[oM]
  by_cases h1:fC out s=true
  ·have m:=(fy _ _).1 h1
   simp only[h1,Bool.not_true,Bool.false_and,Bool.false_eq_true,if_false]
   obtain⟨k1,k2⟩:=wP out l c a
   refine⟨k1.trans ⟨fun h=>⟨h.1,fun x hx=>?_⟩,fun h=>⟨h.1,fun x hx=>h.2 x (List.mem_cons_of_mem _ hx)⟩⟩,fun h=>?_⟩
   ·rcases List.mem_cons.1 hx with rfl | hx
    ·exact m
    ·exact h.2 x hx
   ·obtain⟨g1,g2,g3⟩:=k2 h
    refine⟨g1.imp_right fun h=>⟨List.mem_cons_of_mem _ h.1,h.2⟩,g2,fun x hx hn=>?_⟩
    rcases List.mem_cons.1 hx with rfl|hx
    ·exact absurd m hn
    ·exact g3 x hx hn
  ·have m:s∉out:=fun m=>h1 ((fy _ _).2 m)
   have uq:fC out s=false:=by simpa using h1
   by_cases h2:(!a ||bytesLess s c)=true
   ·simp only [uq,h2,Bool.not_false,Bool.and_self,if_true]
    obtain⟨k1,k2⟩:=wP out l s true
    refine⟨⟨fun h=>absurd (k1.1 h).1 (by simp),fun h=>absurd (h.2 s List.mem_cons_self) m⟩,fun h=>?_⟩
    obtain⟨g1,g2,g3⟩:=k2 h
    have g4:=g2 rfl
    refine⟨.inr ?_,fun ha=>?_,fun x hx hn=>?_⟩
    ·rcases g1 with ⟨_,e⟩ | g1
     ·rw[e];exact⟨List.mem_cons_self,m⟩
     ·exact⟨List.mem_cons_of_mem _ g1.1,g1.2⟩
    ·have h3:bytesLess s c=true:=by simpa [ha]using h2
     cases hh:bytesLess c (oM out l s true).1
     ·rfl
     ·have:=HF _ _ _ h3 hh;rw[g4]at this;cases this
    ·rcases List.mem_cons.1 hx with rfl | hx
     ·exact g4
     ·exact g3 x hx hn
   ·have wx:(!a || bytesLess s c)=false:=by simpa using h2
    have ha:a=true:=by cases a<;>simp_all
    have h3:bytesLess s c=false:=by cases a<;>simp_all
    simp only[uq,wx,Bool.not_false,Bool.and_false,Bool.false_eq_true,if_false]
    obtain⟨k1,k2⟩:=wP out l c a
    refine⟨⟨fun h=>absurd (k1.1 h).1 (by simp[ha]),fun h=>absurd h.1 (by simp[ha])⟩,fun h=>?_⟩
    obtain⟨g1,g2,g3⟩:=k2 h
    refine⟨g1.imp_right fun h=>⟨List.mem_cons_of_mem _ h.1,h.2⟩,g2,fun x hx hn=>?_⟩
    rcases List.mem_cons.1 hx with rfl|hx
    ·cases hh:bytesLess x (oM out l c a).1
     ·rfl
     ·have g4:=g2 ha
      rcases AW x c with e|e|e
      ·rw[h3]at e;cases e
      ·subst e;rw[g4]at hh;cases hh
      ·have:=HF _ _ _ e hh;rw[g4]at this;cases this
    ·exact g3 x hx hn
theorem zU (l:List aK) : ∀ (n:Nat) (out:List aK),DO out→(∀ x∈out,x∈l)→(∀ x∈out,∀ y∈l,y∉out→bytesLess x y=true)→
 DO (qZ l n out)∧(∀ x∈qZ l n out,x∈l)∧(∀ x∈out,x∈qZ l n out)∧((∀ x∈l,x∈qZ l n out)∨(qZ l n out).length=out.length+n)
 | 0,out,h1,h2,h3=>⟨h1,h2,fun x m=>m, .inr rfl⟩
 | n+1,out,h1,h2,h3=>by
  simp only[qZ,Wf]
  obtain⟨k1,k2⟩:=wP out l [] false
  cases hq:(oM out l [] false).2
  ·simp only [Bool.false_eq_true,if_false]
   obtain⟨g1,g2,g3,g4⟩:=zU l n out h1 h2 h3
   exact⟨g1,g2,g3, .inl fun x m=>g3 x ((k1.1 hq).2 x m)⟩
  ·simp only [if_true]
   obtain⟨g1,_,g3⟩:=k2 hq
   have g1:(oM out l [] false).1∈l∧(oM out l [] false).1∉out:=by
    rcases g1 with ⟨h,_⟩|g1
    ·cases h
    ·exact g1
   generalize (oM out l [] false).1=c at g1 g3
   obtain⟨r1,r2,r3,r4⟩:=zU l n (out++ [c])
    (by
     refine List.pairwise_append.2 ⟨h1,by simp,fun x hx y hy=>?_⟩
     have:y=c:=by simpa using hy
     subst this
     exact h3 x hx y g1.1 g1.2)
    (fun x hx=>by
     rcases List.mem_append.1 hx with hx|hx
     ·exact h2 x hx
     ·have:x=c:=by simpa using hx
      subst this;exact g1.1)
    (fun x hx y hy hn=>by
     have hyo:y∉out:=fun m=>hn (List.mem_append_left _ m)
     have hyc:y≠c:=fun e=>hn (List.mem_append_right _ (by simp[e]))
     rcases List.mem_append.1 hx with hx|hx
     ·exact h3 x hx y hy hyo
     ·have:x=c:=by simpa using hx
      subst this
      rcases AW x y with h|h|h
      ·exact h
      ·exact absurd h.symm hyc
      ·rw[g3 y hy hyo]at h;cases h)
   refine⟨r1,r2,fun x m=>r3 x (List.mem_append_left _ m),r4.imp_right fun h=>?_⟩
   rw[h];simp;omega
theorem yU : ∀ (a l:List aK),a.Nodup→(∀ x∈a,x∈l)→a.length≤l.length
 | [],l,_,_=>Nat.zero_le _
 |x::a,l,h,hm=>by
  obtain⟨h1,h2⟩:=List.nodup_cons.1 h
  have m:=hm x List.mem_cons_self
  have:=yU a (l.erase x) h2 fun y hy=>(List.mem_erase_of_ne (fun e=>h1 (by rw[← e];exact hy))).2 (hm y (List.mem_cons_of_mem _ hy))
  rw[List.length_erase_of_mem m]at this
  have:0<l.length:=List.length_pos_of_mem m
  simp only[List.length_cons];omega
theorem wQ {l:List aK} (h:DO l):l.Nodup:=h.imp fun {a b} h e=>by subst e;rw[AV]at h;cases h
theorem lB (l:List aK):DO (lj l)∧∀ x,x∈lj l↔x∈l:=by
 obtain⟨h1,h2,h3,h4⟩:=zU l l.length [] List.Pairwise.nil (fun x m=>(by cases m)) (fun x m=>(by cases m))
 refine⟨h1,fun x=>⟨h2 x,fun m=>?_⟩⟩
 rcases h4 with h4|h4
 ·exact h4 x m
 ·refine Classical.byContradiction fun hn=> ?_
  have:=yU (x::qZ l l.length []) l (List.nodup_cons.2 ⟨hn,wQ h1⟩) fun y hy=>by
   rcases List.mem_cons.1 hy with rfl|hy
   ·exact m
   ·exact h2 y hy
  simp only[List.length_cons,h4,List.length_nil]at this
  omega
theorem Po (zs:List aK) (hs:zs.Pairwise fun a b=>bytesLess b a=false) : ∀ m,m≤zs.length→
 DO (Lib.compactUpTo zs.toArray m)∧(∀ x,x∈Lib.compactUpTo zs.toArray m↔x∈zs.take m):=by
 intro m
 induction m with
 |zero=>intro _;exact⟨by simp[Lib.compactUpTo,DO],fun x=>by simp[Lib.compactUpTo]⟩
 | succ m ih=>
  intro hm
  obtain⟨h1,h2⟩:=ih (by omega)
  have hz:zs[m]? = some zs[m]:=List.getElem?_eq_getElem (by omega)
  have e1:zs.toArray[m]! = zs[m]:=by simp[hm,Nat.lt_of_succ_le hm]
  have et:zs.take (m+1)=zs.take m++ [zs[m]]:=by rw[List.take_add_one,hz];rfl
  rw[Lib.compactUpTo_succ,e1,et]
  by_cases hk:Lib.keeps zs.toArray m=true
  ·rw [if_pos hk]
   refine⟨List.pairwise_append.2 ⟨h1,by simp,fun x hx y hy=>?_⟩,fun x=>by rw[List.mem_append,List.mem_append,h2]⟩
   have hy:y=zs[m]:=by simpa using hy
   subst hy
   have hx:=(h2 x).1 hx
   simp only[Lib.keeps,decide_eq_true_eq]at hk
   rcases hk with rfl|hk
   ·simp at hx
   ·have oJ:m - 1<zs.length:=by omega
    have e2:zs.toArray[m - 1]! = zs[m - 1]:=by simp[oJ]
    rw[e1,e2]at hk
    have h0:0<m:=by
     cases m with
     |zero=>simp at hx
     |succ m=>omega
    have hle : ∀ i j (hi:i<zs.length) (hj:j<zs.length),i<j→bytesLess zs[j] zs[i] = false:=fun i j hi hj hij=>List.pairwise_iff_getElem.1 hs i j hi hj hij
    have g1:bytesLess zs[m] zs[m - 1] = false:=hle (m - 1) m oJ (by omega) (by omega)
    have g2:bytesLess zs[m - 1] zs[m] = true:=by
     rcases AW zs[m - 1] zs[m]with h|h|h
     ·exact h
     ·exact absurd h.symm hk
     ·rw[g1]at h;cases h
    obtain⟨i,hi,rfl⟩:=List.mem_iff_getElem.1 hx
    rw[List.length_take]at hi
    rw[List.getElem_take]
    by_cases pb:i=m - 1
    ·subst pb;exact g2
    ·have g3:=hle i (m - 1) (by omega) oJ (by omega)
     rcases AW zs[i] zs[m - 1]with h|h|h
     ·exact HF _ _ _ h g2
     ·rw[h];exact g2
     ·rw[g3]at h;cases h
  ·rw [if_neg hk]
   simp only[List.append_nil]
   refine⟨h1,fun x=>?_⟩
   rw[h2]
   simp only[Lib.keeps,decide_eq_true_eq,not_or,ne_eq,Decidable.not_not]at hk
   obtain⟨k1,k2⟩:=hk
   have oJ:m - 1<zs.length:=by omega
   have e2:zs.toArray[m - 1]! = zs[m - 1]:=by simp[oJ]
   rw[e1,e2]at k2
   simp only[List.mem_append,List.mem_singleton]
   constructor
   ·exact .inl
   ·rintro(h | rfl)
    ·exact h
    ·rw [k2]
     exact List.mem_iff_getElem.2 ⟨m - 1,by rw[List.length_take];omega,by rw[List.getElem_take]⟩
theorem J8 (l:List aK):(nH l).Pairwise fun a b=>bytesLess b a=false:=by
 have h:=List.pairwise_mergeSort (le:=fun x y:aK=>decide (x≤y)) (fun a b c h1 h2=>?_) (fun a b=>?_) l
 ·refine h.imp fun {a b} h=> ?_
  rw[decide_eq_true_eq]at h
  show Go.Op.bytesLess b a=false
  rw[Go.Proofs.bytesLess_eq]
  simpa using h
 ·rw [decide_eq_true_eq]at h1 h2 ⊢
  exact List.le_trans h1 h2
 ·have:=List.le_total a b
  simpa using this
theorem DP (l:List aK):Lib.compact (nH l)=lj l:=by
 obtain⟨h1,h2⟩:=Po (nH l) (J8 l) (nH l).length (Nat.le_refl _)
 obtain⟨h3,h4⟩:=lB l
 refine zT h1 h3 fun x=>?_
 rw[h4]
 refine(h2 x).trans ?_
 rw[List.take_length]
 exact(List.mergeSort_perm _ _).mem_iff
set_option maxRecDepth 8000
open Go.Proofs
def nq:List Sm→List aK
 | []=> []
 |v::l=>if v.kind==4 then v.proc::nq l else nq l
theorem Fl : ∀ l:List Sm,(nq l).length≤l.length
 | []=>Nat.le_refl _
 |v::l=>by
  simp only[nq]
  have:=Fl l
  split<;>simp<;>omega
def Pc.calls (f:Pc):List aK:=lj (nq (Sm.cf f.body))
theorem DQ {name:aK} : ∀ {l:List Pc} {k:Nat} {f:Pc},iC name l=some f→∃ j,l[j]? = some f∧lX (fun f:Pc=>f.name==name) (k:Int) l=((k+j:Nat):Int)
 | g::l,k,f,h=>by
  simp only[iC]at h
  cases e:(g.name==name)
  ·rw [e]at h
   simp only[Bool.false_eq_true,if_false]at h
   obtain⟨j,h1,h2⟩:=DQ (k:=k+1) h
   refine⟨j+1,by simpa using h1, ?_⟩
   simp only[lX,e,Bool.false_eq_true,if_false]
   rw[show((k:Int)+1)=((k+1:Nat):Int)from rfl,h2]
   congr 1;omega
  ·rw [e]at h
   simp only[if_true,Option.some.injEq]at h
   exact⟨0,by simpa using h,by simp[lX,e]⟩
theorem aeh {p:Pg} (h:p.jA) {name:aK} {f:Pc} (hf:p.find name=some f) (s:St):aH Tryz.prog wc [.dR (gj p) 0, .str name] s (.slice .shared 1 (f.calls.map encStr)) s:=by
 refine aH.pure ?_ (by simp[D.bM,D.ok,wi]) (by simp only[D.ok,Tag.ok,fI];rfl) s
 obtain⟨ui,rn,tD⟩:=h.procs
 obtain⟨j,hj,sZ⟩:=DQ (k:=0) hf
 have sZ:p.at name=((j:Nat):Int):=by unfold Pg.at;simpa using sZ
 have yP:=fun s=>Ho (p:=p) (by omega) name s
 rw[sZ]at yP
 obtain⟨it,rp,yS⟩:=Zl hj (by omega)
 have ahS:it.length≤900000:=by
  have e:=congrArg List.length rp
  obtain⟨a,b,e',_,_,e3,e4⟩:=(kJ p).2 j f hj
  have e5:=qJ p
  have e6:=congrArg List.length e3
  rw[e4]at e5
  simp only[List.length_map,List.length_append]at e e5 e6
  omega
 unfold S0
 obtain⟨fn,Cv,Fk⟩:=Hf
 refine aH.intro ⟨fn,Cv,Fk⟩ (Nat.le_of_ble_eq_true rfl) fun B hB=>?_
 generalize hQ:rB (⟨[],[]⟩:St).al.length (⟨[],[]⟩:St).aA.length _ _ (⟨[],[]⟩:St)=Q
 have⟨hD,hZ,gA,gB⟩:=bX
 refine Sem.ox ?_
 repeat' (first
 |simp only[go_sem,hD,hZ,gA,gB]
 |(with_reducible refine aI hQ ?_;exact bA))
 refine Sem.ox ?_
 repeat' (first
 |simp only[go_sem,hD,hZ,gA,gB]
 |(with_reducible refine aI hQ ?_;exact bA))
 refine Sem.ox ?_
 repeat' (first
 |simp only[go_sem,hD,hZ,gA,gB]
 |(with_reducible refine CU (yP _) ?_)
 |(with_reducible refine CU (yS _) ?_)
 |(with_reducible refine aI hQ ?_;exact bA))
 refine bp.sq 5 1 rfl ?_
 simp only[go_sem,hD,hZ,gA,gB]
 obtain⟨R,hR⟩ : ∃ R,R=nq (Sm.cf f.body):=⟨_,rfl⟩
 have hRl:R.length≤900000:=by rw[hR, ← rp];have:=Fl (it.map Im.s);rw[List.length_map]at this;omega
 refine fG 0 1 (bp.ind (ι:=List Im×Nat×List aK×Nat) (fun i=>it.drop i.2.1=i.1∧i.2.2.1++nq (i.1.map Im.s)=R∧i.2.2.2=i.2.2.1.length) (fun i=>i.1.length)
  (fun i=> [(5, .slice (.tok 0) 1 (i.2.2.1.map encStr)),(12, .slice .shared 17 (it.map dP)),(13, .int .i64 (it.length:Int)),(14, .int .i64 (i.2.1:Int))]) (fun i=>⟨[],[some i.2.2.2]⟩) ?_ (it,0,[],0) ⟨rfl,by rw[hR,rp];rfl,rfl⟩)
 rintro⟨rest,k,out,n⟩ ⟨h1,h2,h3⟩ IH
 dsimp only at h1 h2 h3
 subst h3
 have jy:out.length≤900000:=by have:=congrArg List.length h2;rw[List.length_append]at this;omega
 cases rest with
 | cons a rest=>
  obtain⟨hZ,g2,hD,g4⟩:=drop_cons h1
  have cu:k<4611686018427387904:=by omega
  have gA:(out.length+1)*17≤bq:=by unfold bq;omega
  simp only[List.map_cons,nq]at h2
  rcases Bool.eq_false_or_eq_true (a.s.kind==4)with c1|c1
  ·simp only [c1,if_true]at h2
   repeat' (first
 |simp only[go_sem,hD,hZ,gA,gB,c1]
 | (with_reducible refine aI hQ ?_;exact bA))
   refine fi 0 1 ?_ ?_ (IH (rest,k+1,out++ [a.s.proc],out.length+1) ⟨g2,by rw[← h2];simp,by simp⟩ (Nat.lt_succ_self _))
   ·(simp only[go_sem,hD,hZ,gA,gB,aN cu,List.map_append,List.map_cons,List.map_nil,encStr];try exact bY)
   ·(simp only[go_sem,hD,hZ,gA,gB,aN cu,List.map_append,List.map_cons,List.map_nil,encStr];try exact bY)
  ·simp only [c1,Bool.false_eq_true,if_false]at h2
   repeat' (first
 |simp only[go_sem,hD,hZ,gA,gB,c1]
 | (with_reducible refine aI hQ ?_;exact bA))
   refine fi 0 1 ?_ ?_ (IH (rest,k+1,out,_) ⟨g2,h2,rfl⟩ (Nat.lt_succ_self _))
   ·(simp only[go_sem,hD,hZ,gA,gB,aN cu];try exact bY)
   ·(simp only[go_sem,hD,hZ,gA,gB,aN cu];try exact bY)
 |nil=>
  have hD:=drop_nil h1
  simp only[List.map_nil,nq,List.append_nil]at h2
  subst h2
  have HD:(nH out).length=out.length:=List.length_mergeSort out
  repeat' (first
 |simp only[go_sem,hD,hZ,gA,gB]
 |(with_reducible refine aI hQ ?_;exact bA))
  refine Sem.seq (Sem.sort (k:=5) (t:=0) (l:=out) hB (by decide) (by decide) (by decide) rfl rfl (by omega) ?_)
  show Sem _ _ _ _ _ _ _
  refine Sem.seq (Sem.compact (k:=5) (t:=0) (l:=nH out) hB (by decide) rfl (by rw[HD];rfl) (by rw[HD];omega) ?_)
  rw[DP]
  have aty:f.calls=lj out:=by unfold Pc.calls;rw[hR]
  rw[aty]at hQ
  refine jz (ac:= .ret) (Q:=Q) (tm:= [(32, .slice (.tok 0) 1 ((lj out).map encStr)),(4, .slice (.tok 0) 1 ((lj out).map encStr))]) (s:=⟨[],[some (lj out).length]⟩) ?_
  repeat' (first
 |simp only[go_sem,hD,hZ,gA,gB]
 |(with_reducible refine aI hQ ?_;exact bA))
theorem J9 {name:aK} : ∀ {l:List Pc},name∈l.map (·.name)→∃ f,iC name l=some f
 | f::l,h=>by
  simp only[iC]
  cases e:(f.name==name)
  ·simp only [Bool.false_eq_true,if_false]
   refine J9 ?_
   rcases List.mem_cons.1 h with h|h
   ·rw[h]at e;simp at e
   ·exact h
  ·exact⟨f,rfl⟩
theorem Ka {p:Pg} {f:Pc} {procs:List aK} : ∀ {l:List Sm},zR p f procs l=none→∀ v∈l,v.known p f procs=true
 | v::l,h,w,m=>by
  simp only[zR]at h
  split at h
  ·rename_i e
   rcases List.mem_cons.1 m with rfl|m
   ·exact e
   ·exact Ka h w m
  ·cases h
theorem Kb {p:Pg} {procs:List aK} : ∀ {l:List Pc},((tG p procs l).1==0)=true→∀ f∈l,fv (p.globals++f.own)=false∧∀ v∈Sm.cf f.body,v.known p f procs=true
 | g::l,h,f,m=>by
  simp only[tG]at h
  split at h
  ·cases h
  ·rename_i e
   split at h
   ·cases h
   ·rename_i e2
    rcases List.mem_cons.1 m with rfl|m
    ·exact⟨by simpa using e,Ka e2⟩
    ·exact Kb h f m
theorem F6 {p:Pg} (h:(p.scope.1==0)=true):fv p.globals=false∧fv p.pn=false∧p.oK=false∧∀ f∈p.procs,fv (p.globals++f.own)=false∧∀ v∈Sm.cf f.body,v.known p f p.pn=true:=by
 unfold Pg.scope at h
 split at h
 ·split at h
  ·cases h
  ·rename_i e
   simp only[Bool.or_eq_true,not_or,Bool.not_eq_true]at e
   exact⟨e.1,e.2.1,e.2.2,Kb h⟩
 ·cases h
theorem zV {x:aK} : ∀ {l:List Sm},x∈nq l↔∃ v∈l,v.kind=4∧v.proc=x
 | []=>by simp[nq]
 | v::l=>by
  simp only[nq]
  cases e:(v.kind==4)
  ·have:v.kind≠4:=by simpa using e
   simp[this,zV (l:=l)]
  ·have:v.kind=4:=by simpa using e
   simp only[if_true,List.mem_cons,zV (l:=l),exists_eq_or_imp,this,true_and]
   constructor
   ·rintro(h | h)
    ·exact .inl h.symm
    ·exact .inr h
   ·rintro(h | h)
    ·exact .inl h.symm
    ·exact .inr h
theorem DR {f:Pc} {x:aK} : x∈f.calls↔∃ v∈Sm.cf f.body,v.kind=4∧v.proc=x:=by
 unfold Pc.calls;rw[(lB _).2,zV]
theorem zW {p:Pg} (h:(p.scope.1==0)=true) {f:Pc} (hf:f∈p.procs) {x:aK} (m:x∈f.calls) : ∃ g,p.find x=some g:=by
 obtain⟨v,hv,h4,rfl⟩:=DR.1 m
 have hk:=((F6 h).2.2.2 f hf).2 v hv
 simp only[Sm.known,h4,Bool.and_eq_true,Bool.or_eq_true]at hk
 rcases hk.2 with h|⟨_,h⟩
 ·simp at h
 ·exact J9 ((fy _ _).1 h)
def pS (p:Pg) (x:aK):List aK:=match p.find x with|some f=>f.calls|none=> []
def uN (out:List aK):List aK→List aK
 | []=>out
 |x::l=>uN (vh out x) l
def od (p:Pg):Nat→Nat→List aK→List aK
 | 0,_,out=>out
 |n+1,i,out=>match out[i]? with
  |some x=>od p n (i+1) (uN out (pS p x))
  |none=>out
def Pg.work (p:Pg) (name:aK):List aK:=od p (p.procs.length+1) 0 [name]
def Good (p:Pg) (out:List aK):Prop:=out.Nodup∧∀ x∈out,∃ f,p.find x=some f
theorem Good.len {p:Pg} {out:List aK} (h:Good p out):out.length≤p.procs.length:=by
 have:=yU out p.pn h.1 fun x m=>by
  obtain⟨f,hf⟩:=h.2 x m
  obtain⟨h1,h2⟩:=sw hf
  rw[← h2];exact List.mem_map_of_mem h1
 simpa[Pg.pn]using this
theorem Good.spk {p:Pg} {out:List aK} (h:Good p out) {x:aK} (hx : ∃ f,p.find x=some f):Good p (vh out x):=by
 unfold vh
 split
 ·exact h
 ·rename_i e
  have:x∉out:=fun m=>e ((fy _ _).2 m)
  refine⟨List.nodup_append.2 ⟨h.1,by simp,fun a ha b hb e'=>?_⟩,fun y hy=>?_⟩
  ·have hbx:b=x:=by simpa using hb
   rw[e',hbx]at ha;exact this ha
  ·rcases List.mem_append.1 hy with hy | hy
   ·exact h.2 y hy
   ·have:y=x:=by simpa using hy
    subst this;exact hx
theorem Good.add {p:Pg} : ∀ {l out:List aK},Good p out→(∀ x∈l,∃ f,p.find x=some f)→Good p (uN out l)
 | [],out,h,_=>h
 |x::l,out,h,hx=>Good.add (l:=l) (out:=vh out x) (Good.spk h (hx x List.mem_cons_self)) fun y m=>hx y (List.mem_cons_of_mem _ m)
def tgB:Bool→Tag
 |true=> .tok 0
 |false=> .full
def tkB:Bool→Nat→List (Option Nat)
 |true,n=> [some n]
 |false,_=> []
def BA:AI→AI
 | .op d g (.dv z k n ps)=> .op d g (.w6 z k n ps)
 |a=>a
section
variable {P:Program}
theorem Pp {nt:Nat} {ops:Array Oper} {i:Nat} {o:Oper} {ai:AI} (hi:ops[i]? = some o) (hc:cI P nt ops o=some ai)
 {M:Map} {s:St} {w:World} {tm:Tm} {act:Act} (r:Rel M s w) (kN:Laid M s w) (ht:ny M s tm act.tmps) {K':Tm→St→Prop} (h:jR P [BA ai] K' tm s)
 {K:Act→World→Prop} {Q:Exit→Act→World→Prop}
 (hK : ∀ d v s1 w1 M1,K' (tm.put ai.dst d) s1→Ext M s w M1 s1 w1→Rel M1 s1 w1→RD M1 s1 d v→K (act.put o.dst v) w1):wpOp P ops Q i K act w:=by
 by_cases hb : ∃ d g z k n ps,ai = .op d g (.dv z k n ps)
 ·obtain⟨d0,g0,z,k,n,ps,rfl⟩:=hb
  obtain⟨g,hg,_,hb⟩:=Dk hc
  rw[vA hb]at hK
  simp only[wpOp,hi]
  have skip:K' (tm.put o.dst (.tuple [])) s→K (act.put o.dst Go.undef) w:=fun hk=>hK _ _ _ _ _ hk (Ext.refl M s w) r .undef
  have hd:=vA hb
  simp only[AI.dst]at hd
  subst hd
  have pN:Gz P o=some (.dv z k n ps)∧g0=g:=by
   unfold uU at hb
   split at hb
   ·split at hb
    ·obtain⟨xs,_,h⟩:=map_some hb;cases h
    ·cases hb
   ·obtain⟨xs,_,h⟩:=map_some hb;cases h
   ·split at hb
    ·cases hb
    ·split at hb
     ·rename_i pN
      simp only[Option.some.injEq,AI.op.injEq,true_and]at hb
      obtain⟨h1,h2⟩:=hb
      split at h2
      ·cases h2
      ·cases h2;exact⟨pN,h1.symm⟩
     ·rename_i ao fk pN
      simp only[Option.some.injEq,AI.op.injEq,true_and]at hb
      obtain⟨h1,h2⟩:=hb
      subst h2
      exact⟨pN,h1.symm⟩
     ·cases hb
  obtain⟨pN,rfl⟩:=pN
  simp only[BA,jR]at h
  rcases lg hg ht h with ⟨hw,hA⟩|⟨hw,hB⟩
  ·simp only [hw,if_true]
   left
   split at hA
   ·rename_i d s' sF
    obtain⟨v,w',M',ep,r',hv,e'⟩:=A9 pN r ht sF
    unfold Oper.wp
    rcases ep with ep|⟨ep,rfl⟩
    ·rw [ep,Oper.upon_value]
     exact hK _ _ _ _ _ hA e' r' hv
    ·rw [ep,Oper.upon_skip]
     exact hK _ _ _ _ _ hA e' r' hv
   ·exact hA.elim
  ·simp only [hw]
   exact skip hB
 ·have hs:BA ai=ai:=by
   unfold BA
   split
   ·rename_i d g z k n ps;exact absurd ⟨d,g,z,k,n,ps,rfl⟩ hb
   ·rfl
  rw[hs]at h
  exact zv hi hc r kN ht h hK
theorem aei {a:AI} {r:List AI} {K:Tm→St→Prop} {tm:Tm} {s:St} (h:jR P (a::r) K tm s):jR P [a] (jR P r K) tm s:=by
 cases a<;>exact h
theorem Kc {B:gW} {nt:Nat} {ops:Array Oper} {Q:Exit→Tm→St→Prop} : ∀ (l:List Nat) (ol:List Oper) (is:List AI),l.map (ops[·]?)=ol.map some→sS P nt ops ol=some is→
 ∀ (tm:Tm) (s:St) (act:Act) (w:World),jR P (is.map BA) (Q .normal) tm s→Holds B nt tm s act w→wpOps P ops (rA B nt Q) l act w
 | [],[],is,_,hc,tm,s,act,w,h,hh=>by cases hc;exact⟨tm,s,h,hh⟩
 | [],_::_,_,hl,_,_,_,_,_,_,_=>by simp at hl
 |_::_,[],_,hl,_,_,_,_,_,_,_=>by simp at hl
 | i::l,o::ol,is,hl,hc,tm,s,act,w,h,hh=>by
  simp only[List.map_cons,List.cons.injEq]at hl
  obtain⟨hi,hl⟩:=hl
  unfold sS at hc
  split at hc
  ·rename_i ai UI h1 h2
   cases hc
   obtain⟨M,e,r,ht,hn,hd⟩:=hh
   have sm:=An h1
   have hdd:=vB h1
   rw[List.map_cons]at h
   have key:=Pp (K:=fun act w=>wpOps P ops (rA B nt Q) l act w) (Q:=rA B nt Q) hi h1 r (B.laid.ext e) ht (aei h) (fun d v s1 w1 M1 hk e1 r1 hv=>
    Kc (Q:=Q) l ol UI hl h2 _ _ _ _ hk (hdd ▸ Holds.put e ht hn hd sm e1 r1 hv))
   simpa only[wpOps,wpOp,hi]using key
  ·cases hc
theorem Sem.swap {B:gW} {nt:Nat} {is:List AI} {Q:Exit→Tm→St→Prop} {tm:Tm} {s:St} (h:ki P B nt (.run (is.map BA)) Q tm s):Sem P B nt (.run is) Q tm s:=by
 intro c hc act w hh
 obtain⟨id,ops,rfl,hi⟩:=mJ hc
 refine wp_region ?_
 exact Kc _ _ is (Dh ops) hi tm s act w (pW h) hh
end
end Go.Abs
namespace Go.Abs
set_option maxRecDepth 8000
open Go.Proofs
theorem Tq {l:List aK} (h:l.Nodup):nH l=lj l:=by
 refine zT ?_ (lB l).1 fun x=>?_
 ·have h1:=J8 l
  have h2:(nH l).Nodup:=(List.mergeSort_perm l _).nodup_iff.2 h
  refine(List.pairwise_and_iff.2 ⟨h1,h2⟩).imp fun {a b} hab=>?_
  rcases AW a b with e|e|e
  ·exact e
  ·exact absurd e hab.2
  ·rw[hab.1]at e;cases e
 ·rw[(lB l).2];exact(List.mergeSort_perm l _).mem_iff
theorem DS {p:Pg} (mS:(p.scope.1==0)=true) : ∀ (n i:Nat) (out:List aK),Good p out→Good p (od p n i out)
 | 0,i,out,h=>h
 | n+1,i,out,h=>by
  simp only[od]
  split
  ·rename_i x hx
   obtain⟨g,hg⟩:=h.2 x (List.mem_of_getElem? hx)
   refine DS mS n _ _ (h.add fun y m=>?_)
   unfold pS at m
   rw[hg]at m
   exact zW mS (sw hg).1 m
  ·exact h
theorem BB {p:Pg} {name:aK} {f:Pc} (hf:p.find name=some f):Good p [name]:=
 ⟨by simp,fun x m=>by
  have:x=name:=by simpa using m
  subst this;exact⟨f,hf⟩⟩
theorem aej {p:Pg} (h:p.jA) (mS:(p.scope.1==0)=true) {name:aK} {f:Pc} (hf:p.find name=some f) (s:St):aH Tryz.prog zM [.dR (gj p) 0, .str name] s (.slice .shared 1 ((lj (p.work name)).map encStr)) s:=by
 refine aH.pure ?_ (by simp[D.bM,D.ok,wi]) (by simp only[D.ok,Tag.ok,fI];rfl) s
 obtain⟨ui,rn,tD⟩:=h.procs
 obtain⟨R,hR⟩ : ∃ R,p.work name=R:=⟨_,rfl⟩
 have hgR:Good p R:=hR ▸ DS mS _ _ _ (BB hf)
 rw[hR, ← Tq hgR.1]
 unfold Pg.work at hR
 have hg0:Good p [name]:=BB hf
 have hRl:=hgR.len
 unfold S0
 obtain⟨fn,Cv,Fk⟩:=KZ
 refine aH.intro ⟨fn,Cv,Fk⟩ (Nat.le_of_ble_eq_true rfl) fun B hB=>?_
 generalize hQ:rB (⟨[],[]⟩:St).al.length (⟨[],[]⟩:St).aA.length _ _ (⟨[],[]⟩:St)=Q
 have⟨hD,hZ,gA,gB⟩:=bX
 refine Sem.ox ?_
 repeat' (first
 |simp only[go_sem,hD,hZ,gA,gB]
 |(with_reducible first|refine bt fun hc=>?_|refine bu fun hc=>?_|refine bx (fun hc=>?_) fun hc=>?_)<;>(try simp only[hc,bs,↓reduceIte]at h)<;>try simp only[hc]
 |(with_reducible refine aI hQ ?_;exact fS)
 |(cases h;done))
 refine Sem.seq (Sem.swap ?_)
 simp only[List.map_cons,List.map_nil,BA]
 repeat' (first
 |simp only[go_sem,hD,hZ,gA,gB]
 |(with_reducible first|refine bt fun hc=>?_|refine bu fun hc=>?_|refine bx (fun hc=>?_) fun hc=>?_)<;>(try simp only[hc,bs,↓reduceIte]at h)<;>try simp only[hc]
 |(with_reducible refine aI hQ ?_;exact fS)
 |(cases h;done))
 refine Sem.ox ?_
 repeat' (first
 |simp only[go_sem,hD,hZ,gA,gB]
 |(with_reducible first|refine bt fun hc=>?_|refine bu fun hc=>?_|refine bx (fun hc=>?_) fun hc=>?_)<;>(try simp only[hc,bs,↓reduceIte]at h)<;>try simp only[hc]
 |(with_reducible refine aI hQ ?_;exact fS)
 |(cases h;done))
 refine fG 0 1 (bp.ind (ι:=Nat×Nat×List aK×Nat) (fun i=>od p i.1 i.2.1 i.2.2.1=R∧Good p i.2.2.1∧i.1+i.2.1=p.procs.length+1∧i.2.2.2=i.2.2.1.length) (fun i=>i.1)
  (fun i=> [(0, .dR (gj p) 0),(5, .slice (.tok 0) 1 (i.2.2.1.map encStr)),(6, .int .i64 (i.2.1:Int))]) (fun i=>⟨[],[some i.2.2.2]⟩) ?_ (p.procs.length+1,0,[name],1) ⟨hR,hg0,rfl,rfl⟩)
 rintro⟨n,i,out,no⟩ ⟨h1,h2,h3,h4⟩ IH
 dsimp only at h1 h2 h3 h4
 subst h4
 have jy:=h2.len
 cases hx:out[i]? with
 | none=>
  have hD:decide ((i:Int)<(out.length:Int))=false:=by have:=List.getElem?_eq_none_iff.1 hx;simp;omega
  have:R=out:=by
   cases n with
   |zero=>simpa[od]using h1.symm
   |succ n=>simp only[od,hx]at h1;exact h1.symm
  subst this
  repeat' (first
 |simp only[go_sem,hD,hZ,gA,gB]
 |(with_reducible first|refine bt fun hc=>?_|refine bu fun hc=>?_|refine bx (fun hc=>?_) fun hc=>?_)<;>(try simp only[hc,bs,↓reduceIte]at h)<;>try simp only[hc]
 |(with_reducible refine aI hQ ?_;exact fS)
 |(cases h;done))
  refine Sem.seq (Sem.sort (k:=5) (t:=0) (l:=R) hB (by decide) (by decide) (by decide) rfl rfl (by omega) ?_)
  refine jz (ac:=ahx) (Q:=Q) (tm:= [(5, .slice (.tok 0) 1 ((nH R).map encStr))]) (s:=⟨[],[some R.length]⟩) ?_
  repeat' (first
 |simp only[go_sem,hD,hZ,gA,gB]
 |(with_reducible first|refine bt fun hc=>?_|refine bu fun hc=>?_|refine bx (fun hc=>?_) fun hc=>?_)<;>(try simp only[hc,bs,↓reduceIte]at h)<;>try simp only[hc]
 |(with_reducible refine aI hQ ?_;exact fS)
 |(cases h;done))
 |some x=>
  have sG:=(List.getElem?_eq_some_iff.1 hx).1
  have hD:decide ((i:Int)<(out.length:Int))=true:=by simp;omega
  have pb:i<4611686018427387904:=by omega
  cases n with
  |zero=>omega
  |succ n=>
  simp only[od,hx]at h1
  obtain⟨g,HG⟩:=h2.2 x (List.mem_of_getElem? hx)
  have Wi:=(sw HG).1
  have hca:=fun s=>aeh h HG s
  have hcn:pS p x=g.calls:=by unfold pS;rw[HG]
  rw[hcn]at h1
  have DT : ∀ y∈g.calls,∃ f,p.find y=some f:=fun y m=>zW mS Wi m
  have aBG:g.calls.length≤p.procs.length:=Good.len ⟨wQ (lB _).1,DT⟩
  obtain⟨W,hW⟩ : ∃ W,uN out g.calls=W:=⟨_,rfl⟩
  rw[hW]at h1
  repeat' (first
 |simp only[go_sem,hD,hZ,gA,gB,hx]
 |(with_reducible refine CU (hca _) ?_)
 |(with_reducible first|refine bt fun hc=>?_|refine bu fun hc=>?_|refine bx (fun hc=>?_) fun hc=>?_)<;>(try simp only[hc,bs,↓reduceIte]at h)<;>try simp only[hc]
 |(with_reducible refine aI hQ ?_;(try cases h);simp only[bh,bj,bP,bQ,go_sem,hD,hZ,gA,gB,hx];try exact cO)
 | (cases h;done))
  refine fG 0 1 (bp.ind (ι:=List aK×Nat×List aK×Nat) (fun j=>g.calls.drop j.2.1=j.1∧uN j.2.2.1 j.1=W∧Good p j.2.2.1∧j.2.2.2=j.2.2.1.length) (fun j=>j.1.length)
   (fun j=> [(0, .dR (gj p) 0),(5, .slice (.tok 0) 1 (j.2.2.1.map encStr)),(6, .int .i64 (i:Int)),(22, .slice .shared 1 (g.calls.map encStr)),(23, .int .i64 (g.calls.length:Int)),(24, .int .i64 (j.2.1:Int))]) (fun j=>⟨[],[some j.2.2.2]⟩) ?_ (g.calls,0,out,out.length) ⟨rfl,hW,h2,rfl⟩)
  clear hW
  rintro⟨rest,k,df,n'⟩ ⟨j1,j2,j3,j4⟩ IH'
  dsimp only at j1 j2 j3 j4
  subst j4
  have aBH:=j3.len
  cases rest with
  |nil=>
   have ah1:=drop_nil j1
   simp only[uN]at j2
   subst j2
   repeat' (first
 |simp only[go_sem,hD,hZ,gA,gB,ah1]
 |(with_reducible first|refine bt fun hc=>?_|refine bu fun hc=>?_|refine bx (fun hc=>?_) fun hc=>?_)<;>(try simp only[hc,bs,↓reduceIte]at h)<;>try simp only[hc]
 |(with_reducible refine aI hQ ?_;(try cases h);simp only[bh,bj,bP,bQ,go_sem,hD,hZ,gA,gB,ah1];try exact cO)
 | (cases h;done))
   refine fi 0 1 ?_ ?_ (IH (n,i+1,df,df.length) ⟨h1,j3,by dsimp only;omega,rfl⟩ (Nat.lt_succ_self _))
   ·(simp only[go_sem,hD,hZ,gA,gB,aN pb];try exact bY)
   ·(simp only[go_sem,hD,hZ,gA,gB,aN pb];try exact bY)
  | cons y rest=>
   obtain⟨qM,P5,AT,jg4⟩:=drop_cons j1
   have AU:k<4611686018427387904:=by omega
   have gA:(df.length+1)*17≤bq:=by unfold bq;omega
   have Kd:=fun g s=>kv (l:=df) (by omega) y g s
   have hy:=DT y (List.mem_of_getElem? qM)
   have Au:=j3.spk hy
   simp only[uN]at j2
   rcases Bool.eq_false_or_eq_true (fC df y)with c1|c1
   ·simp only [vh,c1,if_true]at j2
    repeat' (first
 |simp only[go_sem,hD,hZ,gA,gB,AT,qM,c1]
 |(with_reducible refine CU (Kd _ _) ?_)
 |(with_reducible first|refine bt fun hc=>?_|refine bu fun hc=>?_|refine bx (fun hc=>?_) fun hc=>?_)<;>(try simp only[hc,bs,↓reduceIte]at h)<;>try simp only[hc]
 |(with_reducible refine aI hQ ?_;(try cases h);simp only[bh,bj,bP,bQ,go_sem,hD,hZ,gA,gB,AT,qM,c1];try exact cO)
 | (cases h;done))
    refine fi 0 1 ?_ ?_ (IH' (rest,k+1,df,df.length) ⟨P5,j2,j3,rfl⟩ (Nat.lt_succ_self _))
    ·(simp only[go_sem,hD,hZ,gA,gB,aN AU];try exact bY)
    ·(simp only[go_sem,hD,hZ,gA,gB,aN AU];try exact bY)
   ·simp only [vh,c1,Bool.false_eq_true,if_false]at j2 Au
    repeat' (first
 |simp only[go_sem,hD,hZ,gA,gB,AT,qM,c1]
 |(with_reducible refine CU (Kd _ _) ?_)
 |(with_reducible first|refine bt fun hc=>?_|refine bu fun hc=>?_|refine bx (fun hc=>?_) fun hc=>?_)<;>(try simp only[hc,bs,↓reduceIte]at h)<;>try simp only[hc]
 |(with_reducible refine aI hQ ?_;(try cases h);simp only[bh,bj,bP,bQ,go_sem,hD,hZ,gA,gB,AT,qM,c1];try exact cO)
 | (cases h;done))
    refine fi 0 1 ?_ ?_ (IH' (rest,k+1,df++ [y],df.length+1) ⟨P5,j2,Au,by simp⟩ (Nat.lt_succ_self _))
    ·(simp only[go_sem,hD,hZ,gA,gB,aN AU,List.map_append,List.map_cons,List.map_nil,encStr];try exact bY)
    ·(simp only[go_sem,hD,hZ,gA,gB,aN AU,List.map_append,List.map_cons,List.map_nil,encStr];try exact bY)
theorem Nq (name:aK) : ∀ l:List Pc,l.any (fun f=>f.name==name)=(iC name l).isSome
 | []=>rfl
 |f::l=>by
  simp only[List.any_cons,iC]
  cases e:(f.name==name)
  ·simp[Nq name l]
  ·simp
theorem ZK (name:aK) (f:Pc):aH Tryz.prog ql ([.agg (bN f)]++ [.ptr 0 0]) ⟨[[.str name]],[]⟩ (.bool (f.name==name)) ⟨[[.str name]],[]⟩:=by
 show aH Tryz.prog ql [.agg (bN f), .ptr 0 0] _ _ _
 refine aH.go EW rfl fun B Q hB hQ=>?_
 have⟨hD,hZ,gA,gB⟩:=bX
 repeat' (first
 |simp only[go_sem,hD,hZ,gA,gB]
 |(with_reducible refine aI hQ ?_;exact bA))
def Pg.uO (p:Pg) (name:aK):Option Pc:=if p.scope.1==0 then p.find name else none
theorem ZL {p:Pg} (h:p.jA) (name:aK) (s:St):aH Tryz.prog wb [.agg (bO p), .str name] s (.bool (p.uO name).isSome) s:=by
 refine aH.pure ?_ (by simp[D.bM,D.ok,iy]) rfl s
 obtain⟨ui,rn,tD⟩:=h.procs
 have rf:=fun s=>xK h s
 have hi:=fun {s:St} {o:Nat} (ho:s.al[o]? = some [.str name])=>DF (CF (l:=p.procs) (f:=ql) (row:= [.str name]) (b:=fun f:Pc=>f.name==name) (by omega) rfl (by with_unfolding_all rfl) (fun x _=>ZK name x)) rfl (yz _) rfl ho
 have iS:=fun {s:St} {o:Nat} (ho:s.al[o]? = some [.str name])=>(show aH Tryz.prog iW [.slice .shared 5 (p.procs.map bN), .ij 191 [.ptr o 0]] s (.bool (p.procs.any fun f:Pc=>f.name==name)) s from hi ho)
 simp only[Nq]at iS
 unfold Pg.uO Pg.find
 unfold S0
 rcases Bool.eq_false_or_eq_true (p.scope.1==0)with b1|b1
 ·simp only [b1,if_true]
  refine aH.go yF rfl fun B Q hB hQ=>?_
  have⟨hD,hZ,gA,gB⟩:=bX
  repeat' (first
 |simp only[go_sem,hD,hZ,gA,gB,b1]
 |(with_reducible refine CU (rf _) ?_)
 |(with_reducible refine CU (iS (by with_unfolding_all rfl)) ?_)
 |(with_reducible refine aI hQ ?_;exact bA))
 ·simp only [b1,Bool.false_eq_true,if_false,Option.isSome_none]
  refine aH.go yF rfl fun B Q hB hQ=>?_
  have⟨hD,hZ,gA,gB⟩:=bX
  repeat' (first
 |simp only[go_sem,hD,hZ,gA,gB,b1]
 |(with_reducible refine CU (rf _) ?_)
 |(with_reducible refine CU (iS (by with_unfolding_all rfl)) ?_)
 |(with_reducible refine aI hQ ?_;exact bA))
def Pg.aAg (p:Pg) (name:aK):List aK:=match p.uO name with|some f=>f.calls|none=> []
def Pg.atz (p:Pg) (name:aK):List aK:=match p.uO name with|some _=>lj (p.work name)|none=> []
theorem DU {p:Pg} {name:aK} {f:Pc} (h:p.uO name=some f):(p.scope.1==0)=true∧p.find name=some f:=by
 unfold Pg.uO at h
 split at h
 ·exact⟨by assumption,h⟩
 ·cases h
def q6 (p:Pg) (out:List aK):List aK→List aK
 | []=>out
 |v::l=>q6 p (if fC p.globals v then out++ [v]else out) l
def q7 (p:Pg) (out:List aK):List Sm→List aK
 | []=>out
 |v::l=>q7 p (q6 p out v.said) l
def oN (p:Pg) (n:aK):List Sm:=match p.find n with|some f=>Sm.cf f.body|none=> []
def sc (p:Pg) (out:List aK):List aK→List aK
 | []=>out
 |n::l=>sc p (q7 p out (oN p n)) l
theorem BD (p:Pg) : ∀ (l out:List aK),out.length≤(q6 p out l).length∧(q6 p out l).length≤out.length+l.length
 | [],out=>⟨Nat.le_refl _,Nat.le_refl _⟩
 |v::l,out=>by
  simp only[q6]
  have h:=BD p l (if fC p.globals v then out++ [v]else out)
  have h2:out.length≤(if fC p.globals v then out++ [v]else out).length∧(if fC p.globals v then out++ [v]else out).length≤out.length+1:=by split<;>simp
  simp only[List.length_cons]
  omega
def qm:List Sm→Nat
 | []=>0
 |v::l=>v.said.length+qm l
theorem DV : ∀ a b:List Sm,qm (a++b)=qm a+qm b
 | [],b=>by simp[qm]
 |v::a,b=>by simp only[List.cons_append,qm,DV a b];omega
theorem aek (v:Sm):v.said.length≤1+v.x.size+2*Ar.a7 v.args:=by
 have : ∀ (l:List Ar) (out:List aK),(Ar.said out l).length≤out.length+2*Ar.a7 l:=by
  intro l
  induction l with
  |nil=>intro out;simp[Ar.said]
  |cons a l ih=>
   intro out
   simp only[Ar.said,Ar.a7]
   refine Nat.le_trans (ih _) ?_
   have:=mh a.x
   have:1≤a.x.size:=by obtain⟨_,_,_,_⟩:=a.x;simp[Ex.size]
   simp only[List.length_append]
   split<;>simp<;>omega
 have h1:=this v.args (v.vi++v.x.names)
 have h2:=mh v.x
 have h4:v.vi.length≤1:=by unfold Sm.vi;split<;>simp
 simp only[List.length_append]at h1
 unfold Sm.said
 omega
mutual
theorem Wj : ∀ s:Sm,qm s.pre≤2*s.size
 |⟨id,kind,labels,name,proc,x,has,args,aP,aM⟩=>by
  simp only[Sm.pre,qm,DV,Sm.size]
  have h1:=aek ⟨id,kind,labels,name,proc,x,has,args,aP,aM⟩
  have h2:=wR aP
  have h3:=wR aM
  dsimp only at h1
  omega
theorem wR : ∀ l:List Sm,qm (Sm.cf l)≤2*Sm.a7 l
 | []=>by simp[Sm.cf,qm,Sm.a7]
 |s::l=>by
  simp only[Sm.cf,DV,Sm.a7]
  have:=Wj s;have:=wR l;omega
end
theorem BE (p:Pg) : ∀ (l:List Sm) (out:List aK),out.length≤(q7 p out l).length∧(q7 p out l).length≤out.length+qm l
 | [],out=>⟨Nat.le_refl _,Nat.le_refl _⟩
 |v::l,out=>by
  simp only[q7,qm]
  have h:=BE p l (q6 p out v.said)
  have h2:=BD p v.said out
  omega
theorem BF {p:Pg} (h:p.jA) : ∀ (l out:List aK),out.length≤(sc p out l).length∧(sc p out l).length≤out.length+l.length*1800000
 | [],out=>⟨Nat.le_refl _,by simp[sc]⟩
 | n::l,out=>by
  simp only[sc]
  have h1:=BF h l (q7 p out (oN p n))
  have h2:=BE p (oN p n) out
  have h3:qm (oN p n)≤1800000:=by
   unfold oN
   split
   ·rename_i f hf
    have:=wR f.body
    have h4:=Pc.da (sw hf).1
    have h5:=h.procs.2.1
    simp only[Pc.size]at h4
    omega
   ·simp[qm]
  simp only[List.length_cons]
  omega
theorem Wl {p:Pg} (h:p.may=true):p.procs.length≤16:=by
 unfold Pg.may at h
 split at h
 ·cases h
 ·rename_i c
  simp only[Bool.or_eq_true,decide_eq_true_eq,not_or,Int.not_lt,gt_iff_lt]at c
  have:=c.1.2
  omega
def Pg.sx (p:Pg) (name:aK):List aK:=sc p [] (lj (p.work name))
def Pg.mT (p:Pg) (name:aK):List aK:=match p.uO name with|some _=>lj (p.sx name)|none=> []
theorem Nr {p:Pg} (mS:(p.scope.1==0)=true) {name:aK} {f:Pc} (hf:p.find name=some f):Good p (lj (p.work name)):=by
 have h:=DS mS (p.procs.length+1) 0 [name] (BB hf)
 refine⟨wQ (lB _).1,fun x m=>h.2 x ?_⟩
 exact((lB _).2 x).1 m
theorem Wm {p:Pg} (h:p.jA) (name:aK) (s:St):aH Tryz.prog tj [.agg (bO p), .str name] s (.slice .shared 1 ((p.mT name).map encStr)) s:=by
 refine aH.pure ?_ (by simp[D.bM,D.ok,iy]) (by simp only[D.ok,Tag.ok,fI];rfl) s
 have hk:=fun s=>ZL h name s
 have dA:=fun s=>Ev (p:=p) (by have:=h.procs;omega) s
 unfold Pg.mT
 unfold S0
 cases ZM:p.uO name with
 |none=>
  simp only[ZM,Option.isSome_none]at hk
  simp only[List.map_nil]
  refine aH.go wA rfl fun B Q hB hQ=>?_
  have⟨hD,hZ,gA,gB⟩:=bX
  repeat' (first
 |simp only[go_sem,hD,hZ,gA,gB]
 |(with_reducible refine CU (hk _) ?_)
 |(with_reducible refine aI hQ ?_;exact bA))
 |some f=>
 obtain⟨mS,hf⟩:=DU ZM
 simp only[ZM,Option.isSome_some]at hk
 dsimp only
 obtain⟨ui,rn,tD⟩:=h.procs
 have hN:=Nr mS hf
 obtain⟨N,hNe⟩ : ∃ N,lj (p.work name)=N:=⟨_,rfl⟩
 rw[hNe]at hN
 have hNl:=hN.len
 obtain⟨R,hR⟩ : ∃ R,p.sx name=R:=⟨_,rfl⟩
 rw[hR]
 unfold Pg.sx at hR
 rw[hNe]at hR
 have hRl:R.length≤28800000:=by
  have:=(BF h N []).2
  rw[hR]at this
  have h4:=Wl (DM mS)
  have h3:N.length*1800000≤16*1800000:=Nat.mul_le_mul_right _ (by omega)
  simp only[List.length_nil]at this
  omega
 have hca:=fun s=>aej h mS hf s
 simp only[hNe]at hca
 obtain⟨fn,Cv,Fk⟩:=wA
 refine aH.intro ⟨fn,Cv,Fk⟩ (Nat.le_of_ble_eq_true rfl) fun B hB=>?_
 generalize hQ:rB (⟨[],[]⟩:St).al.length (⟨[],[]⟩:St).aA.length _ _ (⟨[],[]⟩:St)=Q
 have⟨hD,hZ,gA,gB⟩:=bX
 refine Sem.ox ?_
 repeat' (first
 |simp only[go_sem,hD,hZ,gA,gB]
 |(with_reducible refine aI hQ ?_;exact bA))
 refine Sem.ox ?_
 repeat' (first
 |simp only[go_sem,hD,hZ,gA,gB]
 |(with_reducible refine CU (hk _) ?_)
 |(with_reducible refine aI hQ ?_;exact bA))
 refine Sem.ox ?_
 repeat' (first
 |simp only[go_sem,hD,hZ,gA,gB]
 |(with_reducible refine CU (dA _) ?_)
 |(with_reducible refine aI hQ ?_;exact bA))
 refine Sem.ox ?_
 repeat' (first
 |simp only[go_sem,hD,hZ,gA,gB]
 |(with_reducible refine aI hQ ?_;exact bA))
 refine Sem.ox ?_
 repeat' (first
 |simp only[go_sem,hD,hZ,gA,gB]
 |(with_reducible refine CU (hca _) ?_)
 |(with_reducible refine aI hQ ?_;exact bA))
 refine bp.sq 6 1 rfl ?_
 simp only[go_sem,hD,hZ,gA,gB]
 refine fG 1 1 (bp.ind (ι:=List aK×Nat×List aK×Nat) (fun i=>N.drop i.2.1=i.1∧sc p i.2.2.1 i.1=R∧i.2.2.1.length≤R.length∧i.2.2.2=i.2.2.1.length) (fun i=>i.1.length)
  (fun i=> [(2, .ptr 0 0),(5, .dR (gj p) 0),(6, .slice (.tok 0) 1 (i.2.2.1.map encStr)),(21, .slice .shared 1 (N.map encStr)),(22, .int .i64 (N.length:Int)),(23, .int .i64 (i.2.1:Int))]) (fun i=>⟨[bO p],[some i.2.2.2]⟩) ?_ (N,0,[],0) ⟨rfl,hR,Nat.zero_le _,rfl⟩)
 rintro⟨rest,k,out,no⟩ ⟨h1,h2,h3,h4⟩ IH
 dsimp only at h1 h2 h3 h4
 subst h4
 cases rest with
 |nil=>
  have hD:=drop_nil h1
  simp only[sc]at h2
  subst h2
  have HD:(nH out).length=out.length:=List.length_mergeSort out
  repeat' (first
 |simp only[go_sem,hD,hZ,gA,gB]
 |(with_reducible refine aI hQ ?_;exact bA))
  refine Sem.seq (Sem.sort (k:=6) (t:=0) (l:=out) hB (by decide) (by decide) (by decide) rfl rfl (by omega) ?_)
  refine Sem.seq (Sem.compact (k:=6) (t:=0) (l:=nH out) hB (by decide) rfl (by rw[HD];rfl) (by rw[HD];omega) ?_)
  rw[DP]
  refine jz (ac:= .ret) (Q:=Q) (tm:= [(59, .slice (.tok 0) 1 ((lj out).map encStr)),(4, .slice (.tok 0) 1 ((lj out).map encStr))]) (s:=⟨[],[some (lj out).length]⟩) ?_
  repeat' (first
 |simp only[go_sem,hD,hZ,gA,gB]
 |(with_reducible refine aI hQ ?_;exact bA))
 | cons x rest=>
  obtain⟨hZ,g2,hD,g4⟩:=drop_cons h1
  have cu:k<4611686018427387904:=by omega
  obtain⟨g,HG⟩:=hN.2 x (List.mem_of_getElem? hZ)
  have Wi:=(sw HG).1
  have hbd:oN p x=Sm.cf g.body:=by unfold oN;rw[HG]
  simp only[sc,hbd]at h2
  obtain⟨j,hj,sZ⟩:=DQ (k:=0) HG
  have sZ:p.at x=((j:Nat):Int):=by unfold Pg.at;simpa using sZ
  have yP:=fun s=>Ho (p:=p) (by omega) x s
  simp only[sZ]at yP
  obtain⟨it,rp,yS⟩:=Zl hj (by omega)
  have ahS:it.length≤900000:=by
   have e:=congrArg List.length rp
   obtain⟨a,b,e',_,_,e3,e4⟩:=(kJ p).2 j g hj
   have e5:=qJ p
   have e6:=congrArg List.length e3
   rw[e4]at e5
   simp only[List.length_map,List.length_append]at e e5 e6
   omega
  rw[← rp]at h2
  repeat' (first
 |simp only[go_sem,hD,hZ,gA,gB,hZ]
 |(with_reducible refine CU (yP _) ?_)
 |(with_reducible refine CU (yS _) ?_)
 | (with_reducible refine aI hQ ?_;exact bA))
  obtain⟨W,hW⟩ : ∃ W,q7 p out (it.map Im.s)=W:=⟨_,rfl⟩
  rw[hW]at h2
  have hWR:W.length≤R.length:=by have:=(BF h rest W).1;rw[h2]at this;exact this
  have Wc:out.length≤W.length:=by have:=(BE p (it.map Im.s) out).1;rw[hW]at this;exact this
  refine fG 1 1 (bp.ind (ι:=List Im×Nat×List aK×Nat) (fun i=>it.drop i.2.1=i.1∧q7 p i.2.2.1 (i.1.map Im.s)=W∧i.2.2.1.length≤W.length∧i.2.2.2=i.2.2.1.length) (fun i=>i.1.length)
   (fun i=> [(2, .ptr 0 0),(5, .dR (gj p) 0),(6, .slice (.tok 0) 1 (i.2.2.1.map encStr)),(21, .slice .shared 1 (N.map encStr)),(22, .int .i64 (N.length:Int)),(23, .int .i64 (k:Int)),(31, .slice .shared 17 (it.map dP)),(32, .int .i64 (it.length:Int)),(33, .int .i64 (i.2.1:Int))]) (fun i=>⟨[bO p],[some i.2.2.2]⟩) ?_ (it,0,out,out.length) ⟨rfl,hW,Wc,rfl⟩)
  rintro⟨yV,k2,F7,no⟩ ⟨j1,j2,j3,j4⟩ Hs
  dsimp only at j1 j2 j3 j4
  subst j4
  cases yV with
  |nil=>
   have ah3:=drop_nil j1
   simp only[List.map_nil,q7]at j2
   subst j2
   repeat' (first
 |simp only[go_sem,hD,hZ,gA,gB,ah3]
 | (with_reducible refine aI hQ ?_;exact bA))
   refine fi 1 1 ?_ ?_ (IH (rest,k+1,F7,F7.length) ⟨g2,h2,hWR,rfl⟩ (Nat.lt_succ_self _))
   ·(simp only[go_sem,hD,hZ,gA,gB,aN cu];try exact bY)
   ·(simp only[go_sem,hD,hZ,gA,gB,aN cu];try exact bY)
  |cons y yV=>
   obtain⟨qM,P5,AT,jg4⟩:=drop_cons j1
   have AU:k2<4611686018427387904:=by omega
   have hym:y.s∈Sm.cf g.body:=by rw[← rp];exact List.mem_map_of_mem (List.mem_of_getElem? qM)
   have uk:=h.said Wi _ hym
   have hsa:=fun s=>DI uk s
   have HD:=Ng _ uk
   simp only[List.map_cons,q7]at j2
   repeat' (first
 |simp only[go_sem,hD,hZ,gA,gB,AT,qM]
 |(with_reducible refine CU (hsa _) ?_)
 | (with_reducible refine aI hQ ?_;exact bA))
   obtain⟨V,hV⟩ : ∃ V,q6 p F7 y.s.said=V:=⟨_,rfl⟩
   rw[hV]at j2
   have hVW:V.length≤W.length:=by have:=(BE p (yV.map Im.s) V).1;rw[j2]at this;exact this
   have hoV:F7.length≤V.length:=by have:=(BD p y.s.said F7).1;rw[hV]at this;exact this
   refine fG 1 1 (bp.ind (ι:=List aK×Nat×List aK×Nat) (fun i=>y.s.said.drop i.2.1=i.1∧q6 p i.2.2.1 i.1=V∧i.2.2.1.length≤V.length∧i.2.2.2=i.2.2.1.length) (fun i=>i.1.length)
    (fun i=> [(2, .ptr 0 0),(5, .dR (gj p) 0),(6, .slice (.tok 0) 1 (i.2.2.1.map encStr)),(21, .slice .shared 1 (N.map encStr)),(22, .int .i64 (N.length:Int)),(23, .int .i64 (k:Int)),(31, .slice .shared 17 (it.map dP)),(32, .int .i64 (it.length:Int)),(33, .int .i64 (k2:Int)),(39, .slice .shared 1 (y.s.said.map encStr)),(40, .int .i64 (y.s.said.length:Int)),(41, .int .i64 (i.2.1:Int))]) (fun i=>⟨[bO p],[some i.2.2.2]⟩) ?_ (y.s.said,0,F7,F7.length) ⟨rfl,hV,hoV,rfl⟩)
   rintro⟨HH,k3,BG,no⟩ ⟨l1,l2,l3,l4⟩ IH3
   dsimp only at l1 l2 l3 l4
   subst l4
   cases HH with
   |nil=>
    have atA:=drop_nil l1
    simp only[q6]at l2
    subst l2
    repeat' (first
 |simp only[go_sem,hD,hZ,gA,gB,atA]
 | (with_reducible refine aI hQ ?_;exact bA))
    refine fi 1 1 ?_ ?_ (Hs (yV,k2+1,BG,BG.length) ⟨P5,j2,hVW,rfl⟩ (Nat.lt_succ_self _))
    ·(simp only[go_sem,hD,hZ,gA,gB,aN AU];try exact bY)
    ·(simp only[go_sem,hD,hZ,gA,gB,aN AU];try exact bY)
   | cons z HH=>
    obtain⟨ah4,lg2,llt,lg4⟩:=drop_cons l1
    have Ke:k3<4611686018427387904:=by omega
    have Kd:=fun g s=>kv (l:=p.globals) (by omega) z g s
    simp only[q6]at l2
    rcases Bool.eq_false_or_eq_true (fC p.globals z)with c1|c1
    ·simp only [c1,if_true]at l2
     have gA:(BG.length+1)*17≤bq:=by unfold bq;omega
     have hoo:(BG++ [z]).length≤V.length:=by have:=(BD p HH (BG++ [z])).1;rw[l2]at this;exact this
     repeat' (first
 |simp only[go_sem,hD,hZ,gA,gB,llt,ah4,c1]
 |(with_reducible refine CU (Kd _ _) ?_)
 | (with_reducible refine aI hQ ?_;exact bA))
     refine fi 1 1 ?_ ?_ (IH3 (HH,k3+1,BG++ [z],BG.length+1) ⟨lg2,l2,hoo,by simp⟩ (Nat.lt_succ_self _))
     ·(simp only[go_sem,hD,hZ,gA,gB,aN Ke,List.map_append,List.map_cons,List.map_nil,encStr];try exact bY)
     ·(simp only[go_sem,hD,hZ,gA,gB,aN Ke,List.map_append,List.map_cons,List.map_nil,encStr];try exact bY)
    ·simp only [c1,Bool.false_eq_true,if_false]at l2
     repeat' (first
 |simp only[go_sem,hD,hZ,gA,gB,llt,ah4,c1]
 |(with_reducible refine CU (Kd _ _) ?_)
 |(with_reducible refine aI hQ ?_;exact bA))
     refine fi 1 1 ?_ ?_ (IH3 (HH,k3+1,BG,BG.length) ⟨lg2,l2,l3,rfl⟩ (Nat.lt_succ_self _))
     ·(simp only[go_sem,hD,hZ,gA,gB,aN Ke];try exact bY)
     ·(simp only[go_sem,hD,hZ,gA,gB,aN Ke];try exact bY)
mutual
def Sm.oO (deep bW:Int) (aM:Bool):Sm→List It
 |⟨id,kind,labels,name,proc,x,has,args,aP,e⟩=>⟨⟨id,kind,labels,name,proc,x,has,args,aP,e⟩,deep,bW,aM⟩::(Sm.qN (deep+1) id false aP++Sm.qN (deep+1) id true e)
def Sm.qN (deep bW:Int) (aM:Bool):List Sm→List It
 | []=> []
 |s::l=>s.oO deep bW aM++Sm.qN deep bW aM l
end
mutual
theorem Wo (deep bW:Int) (aM:Bool) (out:List It) : ∀ s:Sm,(gL deep bW aM out s).length≤200→(∀ i∈gL deep bW aM out s,i.deep≤12)→gL deep bW aM out s=out++s.oO deep bW aM
 | ⟨id,kind,labels,name,proc,x,has,args,aP,e⟩,h1,h2=>by
  simp only[gL,Sm.oO]at h1 h2 ⊢
  by_cases hd:deep≤12
  ·simp only [hd,decide_true,if_true]at h1 h2 ⊢
   obtain⟨e2,g2⟩:=qL (deep+1) id true (dO (deep+1) id false (out++ [⟨⟨id,kind,labels,name,proc,x,has,args,aP,e⟩,deep,bW,aM⟩]) aP) e
   have k1:(dO (deep+1) id false (out++ [⟨⟨id,kind,labels,name,proc,x,has,args,aP,e⟩,deep,bW,aM⟩]) aP).length≤200:=by
    rw[g2,List.length_append]at h1;omega
   have k2 : ∀ i∈dO (deep+1) id false (out++ [⟨⟨id,kind,labels,name,proc,x,has,args,aP,e⟩,deep,bW,aM⟩]) aP,i.deep≤12:=fun i m=>h2 i (by rw[g2];exact List.mem_append_left _ m)
   rw[yW (deep+1) id true _ e h1 h2,yW (deep+1) id false _ aP k1 k2]
   simp
  ·simp only [hd,decide_false,Bool.false_eq_true,if_false]at h1 h2
   exact absurd (h2 _ (List.mem_append_right _ (List.mem_singleton.2 rfl))) (by simpa using hd)
theorem yW (deep bW:Int) (aM:Bool) (out:List It) : ∀ l:List Sm,(dO deep bW aM out l).length≤200→(∀ i∈dO deep bW aM out l,i.deep≤12)→dO deep bW aM out l=out++Sm.qN deep bW aM l
 | [],h1,h2=>by simp[dO,Sm.qN]
 | s::l,h1,h2=>by
  simp only[dO,Sm.qN]at h1 h2 ⊢
  by_cases hc:(out.length:Int)≤200
  ·simp only [hc,decide_true,if_true]at h1 h2 ⊢
   obtain⟨e2,g2⟩:=qL deep bW aM (gL deep bW aM out s) l
   have k1:(gL deep bW aM out s).length≤200:=by rw[g2,List.length_append]at h1;omega
   have k2 : ∀ i∈gL deep bW aM out s,i.deep≤12:=fun i m=>h2 i (by rw[g2];exact List.mem_append_left _ m)
   rw[yW deep bW aM _ l h1 h2,Wo deep bW aM out s k1 k2]
   simp
  ·simp only [hc,decide_false,Bool.false_eq_true,if_false]at h1
   omega
end
theorem Ns : ∀ (l:List Pc) (out:List It),(allM out l).length≤200→(∀ i∈allM out l,i.deep≤12)→(∀ f∈l,f.flat=Sm.qN 1 0 false f.body)∧allM out l=out++(l.map fun f=>Sm.qN 1 0 false f.body).flatten
 | [],out,h1,h2=>⟨fun f m=>(by cases m),by simp[allM]⟩
 | f::l,out,h1,h2=>by
  simp only[allM]at h1 h2 ⊢
  by_cases hc:(((out++f.flat).length:Nat):Int) > 200
  ·simp only[hc,decide_true,if_true]at h1;omega
  ·simp only [hc,decide_false,Bool.false_eq_true,if_false]at h1 h2 ⊢
   obtain⟨k1,k2⟩:=Ns l (out++f.flat) h1 h2
   have k3:f.flat=Sm.qN 1 0 false f.body:=by
    have:=yW 1 0 false [] f.body (by
     have:f.flat.length≤200:=by simp only[List.length_append]at hc;omega
     exact this) (fun i m=>h2 i (by rw[k2];exact List.mem_append_left _ (List.mem_append_right _ m)))
    simpa[Pc.flat]using this
   refine⟨fun g m=>?_, ?_⟩
   ·rcases List.mem_cons.1 m with rfl | m
    ·exact k3
    ·exact k1 g m
   ·rw[k2,k3];simp
theorem ael {p:Pg} (h:p.may=true):(∀ f∈p.procs,f.flat=Sm.qN 1 0 false f.body)∧p.all=(p.procs.map fun f=>Sm.qN 1 0 false f.body).flatten:=by
 obtain⟨h1,h2⟩:=uM h
 have:=Ns p.procs [] h1 (yR _ 0 h2).1
 simpa[Pg.all]using this
mutual
theorem al9 (deep bW:Int) (aM:Bool) : ∀ s:Sm,(s.oO deep bW aM).map It.s=s.pre
 |⟨id,kind,labels,name,proc,x,has,args,aP,e⟩=>by
  simp only[Sm.oO,Sm.pre,List.map_cons,List.map_append,HI _ _ _ aP,HI _ _ _ e]
theorem HI (deep bW:Int) (aM:Bool) : ∀ l:List Sm,(Sm.qN deep bW aM l).map It.s=Sm.cf l
 | []=>rfl
 |s::l=>by simp only[Sm.qN,Sm.cf,List.map_append,al9 _ _ _ s,HI _ _ _ l]
end
def dB (l:List Sm) (none:Int):Int:=match l with| []=>none|t::_=>t.id
mutual
def Sm.tJ (proc up next loop:Int):Sm→List Im
 |⟨id,kind,labels,name,pc,x,has,args,aP,aM⟩=>⟨⟨id,kind,labels,name,pc,x,has,args,aP,aM⟩,proc,up,next,loop⟩::
  (Sm.fF proc id (if kind==6 then id else next) (if kind==6 then id else loop) aP++Sm.fF proc id (if kind==6 then id else next) (if kind==6 then id else loop) aM)
def Sm.fF (proc up next loop:Int):List Sm→List Im
 | []=> []
 |s::l=>s.tJ proc up (dB l next) loop++Sm.fF proc up next loop l
end
theorem HJ (proc up next loop:Int) (s:Sm):s.tJ proc up next loop = ⟨s,proc,up,next,loop⟩::(Sm.fF proc s.id (if s.kind==6 then s.id else next) (if s.kind==6 then s.id else loop) s.aP++Sm.fF proc s.id (if s.kind==6 then s.id else next) (if s.kind==6 then s.id else loop) s.aM):=by cases s;simp only[Sm.tJ]
def qd (n:Nat) (l:List Sm):Prop:=∀ (i:Nat) (v:Sm),l[i]? = some v→v.id=((n+i+1:Nat):Int)
theorem qd.head {n:Nat} {v:Sm} {l:List Sm} (h:qd n (v::l)):v.id=((n+1:Nat):Int):=h 0 v rfl
theorem qd.tail {n:Nat} {v:Sm} {l:List Sm} (h:qd n (v::l)):qd (n+1) l:=fun i w hw=>by
 rw[h (i+1) w (by simpa using hw)];congr 1;omega
theorem qd.left {n:Nat} {a b:List Sm} (h:qd n (a++b)):qd n a:=fun i w hw=>h i w (by rw[List.getElem?_append_left (List.getElem?_eq_some_iff.1 hw).1];exact hw)
theorem qd.right {n:Nat} {a b:List Sm} (h:qd n (a++b)):qd (n+a.length) b:=fun i w hw=>by
 rw[h (a.length+i) w (by rw[List.getElem?_append_right (by omega)];simpa using hw)];congr 1;omega
theorem ZN (s:Sm):s.pre=s::(Sm.cf s.aP++Sm.cf s.aM):=Sm.lz s
mutual
theorem Qa : ∀ s:Sm,s.iF=s.pre.length
 |⟨id,kind,labels,name,proc,x,has,args,aP,aM⟩=>by
  simp only[Sm.iF,Sm.pre,List.length_cons,List.length_append,BH aP,BH aM];omega
theorem BH : ∀ l:List Sm,Sm.gn l=(Sm.cf l).length
 | []=>rfl
 |s::l=>by simp only[Sm.gn,Sm.cf,List.length_append,Qa s,BH l]
end
mutual
theorem acr (proc up next loop:Int) : ∀ s:Sm,(s.tJ proc up next loop).map Im.s=s.pre
 |⟨id,kind,labels,name,pc,x,has,args,aP,aM⟩=>by
  simp only[Sm.tJ,Sm.pre,List.map_cons,List.map_append,tL _ _ _ _ aP,tL _ _ _ _ aM]
theorem tL (proc up next loop:Int) : ∀ l:List Sm,(Sm.fF proc up next loop l).map Im.s=Sm.cf l
 | []=>rfl
 |s::l=>by simp only[Sm.fF,Sm.cf,List.map_append,acr _ _ _ _ s,tL _ _ _ _ l]
end
theorem aem (proc up next loop:Int) (s:Sm):(s.tJ proc up next loop).length=s.pre.length:=by rw[← acr proc up next loop s,List.length_map]
theorem F8 (proc up next loop:Int) (l:List Sm):(Sm.fF proc up next loop l).length=(Sm.cf l).length:=by rw[← tL proc up next loop l,List.length_map]
mutual
theorem aen (proc up next loop:Int) (out:List Im) : ∀ s:Sm,qd out.length s.pre→Im.one proc up next loop out s=out++s.tJ proc up next loop
 | ⟨id,kind,labels,name,pc,x,has,args,aP,aM⟩,h=>by
  simp only[Sm.pre]at h
  have h0:id=((out.length+1:Nat):Int):=h.head
  have h1:=h.tail.left
  have h2:=h.tail.right
  have e0:((out.length:Int)+1)=id:=by rw[h0];rfl
  simp only[Im.one,Sm.tJ,e0]
  rw[xM proc id _ _ (out++ [_]) aP (by rw[List.length_append];exact h1)]
  rw[xM proc id _ _ _ aM (by
   rw[List.length_append,List.length_append,F8];exact h2)]
  simp
theorem xM (proc up next loop:Int) (out:List Im) : ∀ l:List Sm,qd out.length (Sm.cf l)→Im.rows proc up next loop out l=out++Sm.fF proc up next loop l
 | [],h=>by simp[Im.rows,Sm.fF]
 | s::l,h=>by
  simp only[Sm.cf]at h
  have e:(if l.length=0 then next else(out.length:Int)+1+(s.iF:Int))=dB l next:=by
   cases l with
   |nil=>rfl
   |cons t l=>
    have h2:=h.right
    simp only[Sm.cf]at h2
    rw[ZN t]at h2
    simp only[List.length_cons,dB]
    rw[if_neg (by omega),h2.head,Qa]
    omega
  simp only[Im.rows,Sm.fF,e]
  rw[aen proc up _ loop out s h.left,xM proc up next loop _ l (by rw[List.length_append,aem];exact h.right)]
  simp
end
def rI (n:Nat):List Pc→List Im
 | []=> []
 |f::l=>Sm.fF n 0 (-1) 0 f.body++rI (n+1) l
theorem Wp : ∀ (l:List Pc) (n:Nat) (h:Sh),qd h.L.length ((l.map fun f=>Sm.cf f.body).flatten)→(Sh.go n h l).L=h.L++rI n l
 | [],n,h,_=>by simp[Sh.go,rI]
 | f::l,n,h,hi=>by
  simp only[List.map_cons,List.flatten_cons]at hi
  simp only[Sh.go,rI]
  have e:=xM (n:Int) 0 (-1) 0 h.L f.body hi.left
  rw[Wp l (n+1) _ (by
   show qd (Im.rows (n:Int) 0 (-1) 0 h.L f.body).length _
   rw[e,List.length_append,F8];exact hi.right)]
  show Im.rows (n:Int) 0 (-1) 0 h.L f.body++_=_
  rw[e];simp
theorem Qb {p:Pg} (h:p.may=true):qd 0 p.pre:=fun i v hv=>by rw[xJ h hv];congr 1;omega
theorem DW {p:Pg} (h:p.may=true):p.aZ.L=rI 0 p.procs:=by
 have:=Wp p.procs 0 ⟨[],[],[]⟩ (Qb h)
 simpa[Pg.aZ]using this
def Wq (l:List It):Nat→Int→Int
 | 0,_=>0
 |n+1,bW=>if bW==0 then 0 else match l[n]? with
  |none=>0
  |some x=>if x.s.id != bW then Wq l n bW else if x.s.kind==6 then bW else Wq l n x.bW
def Up (L:List It) (k:Nat) (oO:List It) (tJ:List Im):Prop:=∀ (i:Nat) (a:It) (b:Im),oO[i]? = some a→tJ[i]? = some b→a.s=b.s∧a.bW=b.up∧Wq L (k+i) a.bW=b.loop
def jP (seen:List aK):List aK→List aK×Bool
 | []=>(seen,true)
 |n::l=>if fC seen n then(seen,false)else jP (seen++ [n]) l
theorem DX : ∀ (l seen:List aK),jP seen l=(if rS seen l then((jP seen l).1,false)else(seen++l,true))
 | [],seen=>by simp[jP,rS]
 | n::l,seen=>by
  simp only[jP,rS]
  split
  ·rfl
  ·rw [DX l (seen++ [n])]
   split
   ·rfl
   ·simp
theorem Qc : ∀ (a b seen:List aK),rS seen (a++b)=(rS seen a ||rS (seen++a) b)
 | [],b,seen=>by simp[rS]
 |x::a,b,seen=>by
  simp only[List.cons_append,rS]
  split
  ·rfl
  ·rw[Qc a b (seen++ [x])];simp
theorem Kf : ∀ (l seen:List aK),seen.length≤(jP seen l).1.length∧(jP seen l).1.length≤seen.length+l.length
 | [],seen=>by simp[jP]
 |n::l,seen=>by
  simp only[jP]
  split
  ·simp
  ·have:=Kf l (seen++ [n]);simp at this ⊢;omega
def ky (lK:List aK) (v:Sm) (loop:Int):Bool:=if v.kind==7 ||v.kind==8 then loop != 0 else if v.kind==10 then fC lK v.name else true
def vj (lK fin seen:List aK):List (Sm×Int)→Option Int
 | []=>if(jP seen fin).2 then none else some 0
 |(v,lp)::l=>if(jP seen v.labels).2 then(if ky lK v lp then vj lK fin (jP seen v.labels).1 l else some v.id)else some v.id
def fA:List Sm→List aK
 | []=> []
 |v::l=>v.labels++fA l
def Pc.labels (f:Pc):List aK:=fA (Sm.cf f.body)++f.fin
def Im.pair (m:Im):Sm×Int:=(m.s,m.loop)
def Pc.tM (f:Pc):List (Sm×Int):=(Sm.fF 0 0 (-1) 0 f.body).map Im.pair
def vk:List Pc→Option Int
 | []=>none
 |f::l=>match vj f.labels f.fin [] f.tM with
  |some id=>some id
  |none=>vk l
def AX (c:Int):Option Int→Int×Int
 |some id=>(c,id)
 |none=>(0,0)
def Pg.jump (p:Pg):Int×Int:=if p.scope.1==0 then AX 7 (vk p.procs)else(1,0)
mutual
theorem ZO (proc up next wS HK next' loop:Int) : ∀ s:Sm,(s.tJ proc up next loop).map Im.pair=(s.tJ wS HK next' loop).map Im.pair
 |⟨id,kind,labels,name,pc,x,has,args,aP,aM⟩=>by
  simp only[Sm.tJ,List.map_cons,List.map_append,Im.pair]
  rw[yX proc id _ wS id (if kind==6 then id else next') _ aP,yX proc id _ wS id (if kind==6 then id else next') _ aM]
theorem yX (proc up next wS HK next' loop:Int) : ∀ l:List Sm,(Sm.fF proc up next loop l).map Im.pair=(Sm.fF wS HK next' loop l).map Im.pair
 | []=>rfl
 |s::l=>by
  simp only[Sm.fF,List.map_append]
  rw[ZO proc up _ wS HK (dB l next') loop s,yX proc up next wS HK next' loop l]
end
theorem F9 (n:Int) (f:Pc):(Sm.fF n 0 (-1) 0 f.body).map Im.pair=f.tM:=yX _ _ _ _ _ _ _ _
theorem aeo (f:Pc):f.tM.map Prod.fst=Sm.cf f.body:=by
 unfold Pc.tM
 rw[List.map_map, ← tL 0 0 (-1) 0 f.body]
 rfl
def Qd (l:List It):Nat→Int→Int
 | 0,_=>0
 |n+1,id=>match l[n]? with
  |none=>0
  |some x=>if x.s.id != id then Qd l n id else if Wq l n x.bW != 0 then Wq l n x.bW else Qd l n id
theorem Qe : ∀ (l:List Pc) (n:Nat) (h:Sh),h.lo.length=n→h.hi.length=n→qd h.L.length ((l.map fun f=>Sm.cf f.body).flatten)→
 ∃ lo hi,Sh.go n h l = ⟨h.L++rI n l,h.lo++lo,h.hi++hi⟩∧lo.length=l.length∧hi.length=l.length∧
  ∀ (i:Nat) (f:Pc),l[i]? = some f→∃ a e:List Im,lo[i]? = some (((h.L++a).length:Int)+1)∧hi[i]? = some (((h.L++a++Sm.fF ((n+i:Nat):Int) 0 (-1) 0 f.body).length:Int)+1)∧rI n l=a++Sm.fF ((n+i:Nat):Int) 0 (-1) 0 f.body++e
 | [],n,h,hl,hh,_=>⟨[],[],by simp[Sh.go,rI],rfl,rfl,fun i f h=>by simp at h⟩
 | f::l,n,h,hl,hh,hi=>by
  simp only[List.map_cons,List.flatten_cons]at hi
  simp only[Sh.go,rI]
  have e1:=xM (n:Int) 0 (-1) 0 h.L f.body hi.left
  obtain⟨lo,iS,h2,h3,h4,h5⟩:=Qe l (n+1) ⟨Im.rows (n:Int) 0 (-1) 0 h.L f.body,h.lo++ [(h.L.length:Int)+1],h.hi++ [((Im.rows (n:Int) 0 (-1) 0 h.L f.body).length:Int)+1]⟩ (by simp[hl]) (by simp[hh]) (by
   show qd (Im.rows (n:Int) 0 (-1) 0 h.L f.body).length _
   rw[e1,List.length_append,F8];exact hi.right)
  refine⟨((h.L.length:Int)+1)::lo,(((Im.rows (n:Int) 0 (-1) 0 h.L f.body).length:Int)+1)::iS, ?_,by simp[h3],by simp[h4],fun i g iS=>?_⟩
  ·rw[h2,e1];simp
  ·cases i with
   |zero=>
    simp only[List.getElem?_cons_zero,Option.some.injEq]at iS
    subst iS
    exact⟨[],rI (n+1) l,by simp,by rw[e1];simp,by simp⟩
   |succ i=>
    simp only[List.getElem?_cons_succ]at iS
    obtain⟨a,e,g1,g2,g3⟩:=h5 i g iS
    have en:n+1+i=n+(i+1):=by omega
    rw[en]at g2 g3
    refine⟨Sm.fF n 0 (-1) 0 f.body++a,e, ?_, ?_,by rw[g3];simp⟩
    ·rw[List.getElem?_cons_succ,g1,e1];simp
    ·rw[List.getElem?_cons_succ,g2,e1];simp
theorem ah5 {p:Pg} (hb:p.may=true) {i:Nat} {f:Pc} (hf:p.procs[i]? = some f) (hs:Pc.a7 p.procs<1000000000) (s:St) :
 aH Tryz.prog iV [.dR (gj p) 0, .int .i64 (i:Int)] s (.slice .shared 17 ((Sm.fF (i:Int) 0 (-1) 0 f.body).map dP)) s:=by
 obtain⟨lo,hi,h1,h2,h3,h4⟩:=Qe p.procs 0 ⟨[],[],[]⟩ rfl rfl (Qb hb)
 obtain⟨a,e,g1,g2,g3⟩:=h4 i f hf
 simp only[Nat.zero_add,List.nil_append]at g1 g2 g3 h1
 refine ahG hs (a:=a) (e:=e) ?_ ?_ ?_ s
 ·show(Sh.go 0 ⟨[],[],[]⟩ p.procs).lo[i]? = _
  rw[h1];exact g1
 ·show(Sh.go 0 ⟨[],[],[]⟩ p.procs).hi[i]? = _
  rw[h1];exact g2
 ·show(Sh.go 0 ⟨[],[],[]⟩ p.procs).L=_
  rw[h1];exact g3
theorem aH.atB {P:Program} {f:FuncId} {pre post:List D} {rows qf:List (List D)} {z z' k k':Nat} {b:Bool} (h:aH P f (pre++ .slice (.tok 0) z rows::post) ⟨[],[some k]⟩ (.tuple [.slice (.tok 0) z' qf, .bool b]) ⟨[],[some k']⟩)
 (hp:D.bM 0 0 pre=true) (ha:D.bM 0 0 post=true) (hw:D.jb 0 0 rows=true) (hw':D.jb 0 0 qf=true)
 {s:St} {t:Nat} (ht:s.aA[t]? = some (some k)):aH P f (pre++ .slice (.tok t) z rows::post) s (.tuple [.slice (.tok t) z' qf, .bool b]) ⟨s.al,s.aA.set t (some k')⟩:=by
 refine bV.frame [] [t] h (by simp) (by simp) (by simp) (by simpa using (List.getElem?_eq_some_iff.1 ht).1) rfl (fun i o' ds e1 e2=>by simp at e1) rfl (fun i t' e1=>?_)
  ?_ ?_ ?_
 ·cases i with
  |zero=>simp at e1;subst e1;simp[ht]
  |succ i=>simp at e1
 ·have h1:=fV [] [t] _ hp
  have h2:=fV [] [t] _ ha
  rw[gK]at h1 h2
  simp[gK,D.cU,Tag.cU,h1,h2,jY _ _ _ hw]
 ·have h1:=jr (n':=0) (m':=1) (Nat.le_refl 0) (Nat.zero_le 1) _ hp
  have h2:=jr (n':=0) (m':=1) (Nat.le_refl 0) (Nat.zero_le 1) _ ha
  rw[Ao]at h1 h2 ⊢
  simp only[List.length_nil,List.length_cons,List.all_append,h1,Bool.true_and,List.all_cons,h2,Bool.and_true,D.ok,Tag.ok,nN (Nat.zero_le 0) (Nat.zero_le 1) _ hw]
  rfl
 ·rintro _ _ ⟨rfl,rfl⟩
  refine⟨by simp[D.back,D.cU,D.fa,Tag.cU,kE,jY _ _ _ hw'], ?_⟩
  simp[St.back,lq]
theorem ah6 {seen l:List aK} (hl:seen.length+l.length<1000000000):aH Tryz.prog rQ [.slice (.tok 0) 1 (seen.map encStr), .slice .shared 1 (l.map encStr)] ⟨[],[some seen.length]⟩
 (.tuple [.slice (.tok 0) 1 ((jP seen l).1.map encStr), .bool (jP seen l).2]) ⟨[],[some (jP seen l).1.length]⟩:=by
 generalize hR:jP seen l=R
 refine aH.go K4 rfl fun B Q hB hQ=>?_
 have⟨hD,hZ,gA,gB⟩:=bX
 repeat' (first
 |simp only[go_sem,hD,hZ,gA,gB]
 |(with_reducible refine aI hQ ?_;exact bA))
 refine fG 0 1 (bp.ind (ι:=List aK×Nat×List aK×Nat) (fun i=>l.drop i.2.1=i.1∧jP i.2.2.1 i.1=R∧i.2.2.2=i.2.2.1.length∧i.2.2.1.length+i.1.length<1000000000) (fun i=>i.1.length)
  (fun i=> [(0, .slice (.tok 0) 1 (i.2.2.1.map encStr)),(8, .slice .shared 1 (l.map encStr)),(9, .int .i64 (l.length:Int)),(10, .int .i64 (i.2.1:Int))]) (fun i=>⟨[],[some i.2.2.2]⟩) ?_ (l,0,seen,seen.length) ⟨rfl,hR,rfl,hl⟩)
 clear hR
 rintro⟨rest,k,out,n⟩ ⟨h1,h2,h3,h4⟩ IH
 dsimp only at h1 h2 h3 h4
 subst h3
 cases rest with
 |nil=>
  have hD:=drop_nil h1
  simp only[jP]at h2
  subst h2
  repeat' (first
 |simp only[go_sem,hD,hZ,gA,gB]
 |(with_reducible refine aI hQ ?_;exact bA))
 | cons x rest=>
  obtain⟨hZ,g2,hD,g4⟩:=drop_cons h1
  have cu:k<4611686018427387904:=by omega
  simp only[List.length_cons]at h4
  have gA:(out.length+1)*17≤bq:=by unfold bq;omega
  have Kd:=fun g s=>kv (l:=out) (by omega) x g s
  simp only[jP]at h2
  rcases Bool.eq_false_or_eq_true (fC out x)with c1|c1
  ·simp only [c1,if_true]at h2
   subst h2
   repeat' (first
 |simp only[go_sem,hD,hZ,gA,gB,c1]
 |(with_reducible refine CU (Kd _ _) ?_)
 | (with_reducible refine aI hQ ?_;exact bA))
  ·simp only [c1,Bool.false_eq_true,if_false]at h2
   repeat' (first
 |simp only[go_sem,hD,hZ,gA,gB,c1]
 |(with_reducible refine CU (Kd _ _) ?_)
 | (with_reducible refine aI hQ ?_;exact bA))
   refine fi 0 1 ?_ ?_ (IH (rest,k+1,out++ [x],out.length+1) ⟨g2,h2,by simp,by simp;omega⟩ (Nat.lt_succ_self _))
   ·(simp only[go_sem,hD,hZ,gA,gB,aN cu,List.map_append,List.map_cons,List.map_nil,encStr];try exact bY)
   ·(simp only[go_sem,hD,hZ,gA,gB,aN cu,List.map_append,List.map_cons,List.map_nil,encStr];try exact bY)
theorem Wr {seen l:List aK} (hl:seen.length+l.length<1000000000) {s:St} {t:Nat} (ht:s.aA[t]? = some (some seen.length)):aH Tryz.prog rQ [.slice (.tok t) 1 (seen.map encStr), .slice .shared 1 (l.map encStr)] s
 (.tuple [.slice (.tok t) 1 ((jP seen l).1.map encStr), .bool (jP seen l).2]) ⟨s.al,s.aA.set t (some (jP seen l).1.length)⟩:=
 (ah6 hl).atB (pre:= []) (post:= [_]) rfl (by simp[D.bM,D.ok,Tag.ok,fI]) (fI _) (fI _) ht
theorem ZP (x:Im):(dP x)[2]? = some (.slice .shared 1 (x.s.labels.map encStr)):=nd rfl
theorem Ws (x:Im):(dP x)[3]? = some (.str x.s.name):=nd rfl
attribute [go_sem] ZP Ws
def gM (fin:List aK) (label:aK):List Sm→Int×Bool
 | []=>if fC fin label then(-1,true)else(0,false)
 |v::l=>if fC v.labels label then(v.id,true)else gM fin label l
theorem yY (fin:List aK) (label:aK) : ∀ l:List Sm,(gM fin label l).2=fC (fA l++fin) label
 | []=>by simp only[gM,fA,List.nil_append];split<;>simp_all
 | v::l=>by
  simp only[gM,fA,List.append_assoc]
  have h:=yY fin label l
  rw[Bool.eq_iff_iff,fy]at h
  split
  ·rename_i c
   exact((fy _ _).2 (List.mem_append.2 (.inl ((fy _ _).1 c)))).symm
  ·rename_i c
   have:label∉v.labels:=fun m=>c ((fy _ _).2 m)
   rw[Bool.eq_iff_iff,h,fy]
   exact⟨fun m=>List.mem_append.2 (.inr m),fun m=>(List.mem_append.1 m).resolve_left this⟩
theorem Nt {p:Pg} {v:Sm} (ho:p.jA) {f:Pc} (hf:f∈p.procs) (hv:v∈Sm.cf f.body):v.labels.length≤900000:=by
 have key : ∀ n:Nat,(∀ s:Sm,s.pre.length≤n→∀ v∈s.pre,v.labels.length≤s.size)∧(∀ l:List Sm,(Sm.cf l).length≤n→∀ v∈Sm.cf l,v.labels.length≤Sm.a7 l):=by
  intro n
  induction n with
  |zero=>
   refine⟨fun s h=>by rw[Sm.lz]at h;simp at h,fun l h v m=>?_⟩
   have:=List.eq_nil_of_length_eq_zero (Nat.le_zero.1 h)
   rw[this]at m;cases m
  | succ n ih=>
   have h1 : ∀ s:Sm,s.pre.length≤n+1→∀ v∈s.pre,v.labels.length≤s.size:=by
    intro s h v m
    rw[Sm.lz]at h m
    simp only[List.length_cons,List.length_append]at h
    obtain⟨id,kind,labels,name,proc,x,has,args,aP,aM⟩:=s
    simp only[Sm.size]
    rcases List.mem_cons.1 m with rfl|m
    ·dsimp only;omega
    ·rcases List.mem_append.1 m with m | m
     ·have:=ih.2 aP (by dsimp only at h;omega) v m;omega
     ·have:=ih.2 aM (by dsimp only at h;omega) v m;omega
   refine⟨h1,fun l=>?_⟩
   induction l with
   |nil=>intro _ v m;cases m
   |cons s l Wt=>
    intro h v m
    simp only[Sm.cf,List.length_append]at h
    simp only[Sm.cf]at m
    simp only[Sm.a7]
    rcases List.mem_append.1 m with m|m
    ·have:=h1 s (by omega) v m;omega
    ·have:=Wt (by omega) v m;omega
 have h1:=(key (Sm.cf f.body).length).2 f.body (Nat.le_refl _) v hv
 have h2:=Pc.da hf
 have h3:=ho.procs.2.1
 simp only[Pc.size]at h2
 omega
theorem Kg {p:Pg} (ho:p.jA) {f:Pc} (hf:f∈p.procs):f.fin.length≤900000:=by
 have h2:=Pc.da hf
 have h3:=ho.procs.2.1
 simp only[Pc.size]at h2
 omega
theorem HL {p:Pg} (ho:p.jA) {f:Pc} (hf:f∈p.procs):(Sm.cf f.body).length≤900000:=by
 rw[← BH]
 have:=pd f.body
 have h2:=Pc.da hf
 have h3:=ho.procs.2.1
 simp only[Pc.size]at h2
 omega
theorem ah7 {p:Pg} (ho:p.jA) (hb:p.may=true) {i:Nat} {f:Pc} (hf:p.procs[i]? = some f) (label:aK) (s:St) :
 aH Tryz.prog qj [.dR (gj p) 0, .int .i64 (i:Int), .str label] s (.tuple [.int .i64 (gM f.fin label (Sm.cf f.body)).1, .bool (gM f.fin label (Sm.cf f.body)).2]) s:=by
 refine aH.pure ?_ (by simp[D.bM,D.ok,wi]) rfl s
 obtain⟨ui,rn,tD⟩:=ho.procs
 have Cu:=List.mem_of_getElem? hf
 have yS:=fun s=>ah5 hb hf (by omega) s
 have rH:=tL (i:Int) 0 (-1) 0 f.body
 have Nu:=HL ho Cu
 have xN:=Kg ho Cu
 have Fk:=fun s=>tB (l:=f.fin) (by omega) label s
 have sG:i<p.procs.length:=(List.getElem?_eq_some_iff.1 hf).1
 generalize hI:Sm.fF (i:Int) 0 (-1) 0 f.body=I at *
 have hIl:I.length≤900000:=by rw[← rH,List.length_map]at Nu;exact Nu
 obtain⟨R,hR⟩ : ∃ R,gM f.fin label (Sm.cf f.body)=R:=⟨_,rfl⟩
 rw[hR]
 rw[← rH]at hR
 unfold S0
 refine aH.go EV rfl fun B Q hB hQ=>?_
 have⟨hD,hZ,gA,gB⟩:=bX
 repeat' (first
 |simp only[go_sem,hD,hZ,gA,gB]
 |(with_reducible refine CU (yS _) ?_)
 |(with_reducible refine aI hQ ?_;exact bA))
 refine fG 0 0 (bp.ind (ι:=List Im×Nat) (fun j=>I.drop j.2=j.1∧gM f.fin label (j.1.map Im.s)=R) (fun j=>j.1.length)
  (fun j=> [(0, .dR (gj p) 0),(1, .int .i64 (i:Int)),(2, .str label),(12, .slice .shared 17 (I.map dP)),(13, .int .i64 (I.length:Int)),(14, .int .i64 (j.2:Int))]) (fun j=>⟨[],[]⟩) ?_ (I,0) ⟨rfl,hR⟩)
 clear hR
 rintro⟨rest,k⟩ ⟨h1,h2⟩ IH
 dsimp only at h1 h2
 cases rest with
 | nil=>
  have hD:=drop_nil h1
  simp only[List.map_nil,gM]at h2
  rcases Bool.eq_false_or_eq_true (fC f.fin label)with c1|c1
  ·simp only [c1,if_true]at h2
   subst h2
   repeat' (first
 |simp only[go_sem,hD,hZ,gA,gB,pE,hf,c1]
 |(with_reducible refine CU (Fk _) ?_)
 | (with_reducible refine aI hQ ?_;exact bA))
  ·simp only [c1,Bool.false_eq_true,if_false]at h2
   subst h2
   repeat' (first
 |simp only[go_sem,hD,hZ,gA,gB,pE,hf,c1]
 |(with_reducible refine CU (Fk _) ?_)
 |(with_reducible refine aI hQ ?_;exact bA))
 | cons a rest=>
  obtain⟨hZ,g2,hD,g4⟩:=drop_cons h1
  have cu:k<4611686018427387904:=by omega
  have Hz:a.s∈Sm.cf f.body:=by rw[← rH];exact List.mem_map_of_mem (List.mem_of_getElem? hZ)
  have ou:=fun s=>tB (l:=a.s.labels) (by have:=Nt ho Cu Hz;omega) label s
  simp only[List.map_cons,gM]at h2
  rcases Bool.eq_false_or_eq_true (fC a.s.labels label)with c1|c1
  ·simp only [c1,if_true]at h2
   subst h2
   repeat' (first
 |simp only[go_sem,hD,hZ,gA,gB,c1]
 |(with_reducible refine CU (ou _) ?_)
 | (with_reducible refine aI hQ ?_;exact bA))
  ·simp only [c1,Bool.false_eq_true,if_false]at h2
   repeat' (first
 |simp only[go_sem,hD,hZ,gA,gB,c1]
 |(with_reducible refine CU (ou _) ?_)
 | (with_reducible refine aI hQ ?_;exact bA))
   refine fi 0 0 ?_ ?_ (IH (rest,k+1) ⟨g2,h2⟩ (Nat.lt_succ_self _))
   ·(simp only[go_sem,hD,hZ,gA,gB,aN cu];try exact bY)
   ·(simp only[go_sem,hD,hZ,gA,gB,aN cu];try exact bY)
theorem aep {p:Pg} (ho:p.jA) (hb:p.may=true) {i:Nat} {f:Pc} (hf:p.procs[i]? = some f) (m:Im) (hm:m.proc=(i:Int)) (s:St) :
 aH Tryz.prog xy [.dR (gj p) 0, .agg (dP m)] s (.bool (ky f.labels m.s m.loop)) s:=by
 refine aH.pure ?_ (by simp[D.bM,D.ok,wi,Tc]) rfl s
 have sZ:=fun s=>ah7 ho hb hf m.s.name s
 have ah8:=yY f.fin m.s.name (Sm.cf f.body)
 rw[← hm]at sZ
 obtain⟨A,hA⟩ : ∃ A,gM f.fin m.s.name (Sm.cf f.body)=A:=⟨_,rfl⟩
 rw[hA]at sZ ah8
 obtain⟨R,hR⟩ : ∃ R,ky f.labels m.s m.loop=R:=⟨_,rfl⟩
 rw[hR]
 unfold ky Pc.labels at hR
 unfold S0
 rcases Bool.eq_false_or_eq_true (m.s.kind==7)with c1|c1
 ·simp only [c1,Bool.true_or,if_true]at hR
  subst hR
  refine aH.go qX rfl fun B Q hB hQ=>?_
  have⟨hD,hZ,gA,gB⟩:=bX
  repeat' (first
 |simp only[go_sem,hD,hZ,gA,gB,c1]
 |(with_reducible refine aI hQ ?_;exact bA))
 rcases Bool.eq_false_or_eq_true (m.s.kind==8)with c2|c2
 ·simp only [c1,c2,Bool.or_true,if_true]at hR
  subst hR
  refine aH.go qX rfl fun B Q hB hQ=>?_
  have⟨hD,hZ,gA,gB⟩:=bX
  repeat' (first
 |simp only[go_sem,hD,hZ,gA,gB,c1,c2]
 |(with_reducible refine aI hQ ?_;exact bA))
 rcases Bool.eq_false_or_eq_true (m.s.kind==10)with c3|c3
 ·simp only [c1,c2,c3,Bool.or_self,Bool.false_eq_true,if_false,if_true, ← ah8]at hR
  subst hR
  refine aH.go qX rfl fun B Q hB hQ=>?_
  have⟨hD,hZ,gA,gB⟩:=bX
  repeat' (first
 |simp only[go_sem,hD,hZ,gA,gB,c1,c2,c3]
 |(with_reducible refine CU (sZ _) ?_)
 |(with_reducible refine aI hQ ?_;exact bA))
 ·simp only [c1,c2,c3,Bool.or_self,Bool.false_eq_true,if_false]at hR
  subst hR
  refine aH.go qX rfl fun B Q hB hQ=>?_
  have⟨hD,hZ,gA,gB⟩:=bX
  repeat' (first
 |simp only[go_sem,hD,hZ,gA,gB,c1,c2,c3]
 |(with_reducible refine aI hQ ?_;exact bA))
end Go.Abs
namespace Go.Abs
def HM (x:Int):Int:=IntKind.wrap .i64 x
def uP (b:Bool):Int:=if b then 1 else 0
def Tr (op a:Int):Int×Bool:=if op==3 then(HM (0 - a),true)else if op==4 then(uP (a==0),true)else(0,false)
def Ts (op a b:Int):Int×Bool:=
 if b==0 then(0,false)
 else if b == -1 then if op==7 then(0,true)else if a == -9223372036854775808 then(a,true)else(HM (0 - a),true)
 else if op==7 then(a.tmod b,true)else(HM (a.tdiv b),true)
def Tt (op a b:Int):Int×Bool:=
 if op==10 then(uP (decide (a<b)),true)else if op==11 then(uP (decide (a≤b)),true)else if op==12 then(uP (decide (a > b)),true)
 else if op==13 then(uP (decide (a≥b)),true)else if op==14 then(uP (a==b),true)else if op==15 then(uP (!(a==b)),true)else(0,false)
def Tv (op a b:Int):Int×Bool:=
 if op==8 then(HM (a+b),true)else if op==9 then(HM (a - b),true)else if op==5 then(HM (a*b),true)
 else if op==6 ||op==7 then Ts op a b
 else if op==16 then(uP (!(a==0) && !(b==0)),true)else if op==17 then(uP (!(a==0) || !(b==0)),true)
 else Tt op a b
def Tw (name:aK) (names:List aK) (bI:List Int):Int:=if jV name 0 names≥0 then bI.getD (jV name 0 names).toNat 0 else 0
def HN (op:Int):List (Int×Bool)→Int×Bool
 | []=>(0,false)
 | [a]=>if a.2 then Tr op a.1 else(0,false)
 |a::b::_=>if !a.2 then(0,false)else if op==16 && a.1==0 then(0,true)else if op==17 && !(a.1==0)then(1,true)else if !b.2 then(0,false)else Tv op a.1 b.1
mutual
def Ex.val (names:List aK) (bI:List Int):Ex→Int×Bool
 |⟨op,n,name,kids⟩=>if op==1 then(n,true)else if op==2 then(Tw name names bI,true)else HN op (Ex.Nv names bI kids)
def Ex.Nv (names:List aK) (bI:List Int):List Ex→List (Int×Bool)
 | []=> []
 |x::l=>x.val names bI::Ex.Nv names bI l
end
def Ex.bg (x:Ex) (names:List aK) (bI:List Int):Int×Bool:=if x.may then x.val names bI else(0,false)
structure Fr where
 proc:Int
 names:List aK
 vars:List Nat
 call:Int
structure Mc where
 st:List Fr
 mem:List Int
 fin:Int
 steps:Int
 reads:Int
 out:List Int
 trace:List (Int×List Int)
def Mc.event (W:List Int) (m:Mc) (id:Int) (bI:List Int):Mc:=if W.contains id then {m with trace:=m.trace++ [(id,bI)]}else m
def Mc.top (m:Mc):Fr:=m.st.headD ⟨0,[],[],0⟩
def Mc.bI (m:Mc):List Int:=m.top.vars.map fun c=>m.mem.getD c 0
def Mc.cell (m:Mc) (name:aK):Nat:=m.top.vars.getD (jV name 0 m.top.names).toNat 0
def Mc.set (m:Mc) (name:aK) (v:Int):Mc:= {m with mem:=m.mem.set (m.cell name) v}
def Mc.bg (m:Mc) (x:Ex):(Int×Bool)×Mc:=
 let r:=x.bg m.top.names m.bI
 (r,if r.2 then m else {m with fin:=4})
def Mc.open (p:Pg) (m:Mc) (i:Int) (params:List Nat) (call:Int):Int×Mc:=
 match p.procs[i.toNat]? with
 |none=>(-1,m)
 |some f=>(dB f.body (-1),{m with st:=⟨i,p.globals++f.own,List.range p.globals.length++params++(List.range f.vars.length).map (m.mem.length + ·),call⟩::m.st,mem:=m.mem++List.replicate f.vars.length 0})
def dX (L:List Im) (id:Int):Im:=L.getD (id - 1).toNat ⟨JP,0,0,0,0⟩
def Mc.close (L:List Im) (m:Mc) (zX:Int):Int×Mc:=
 let call:=m.top.call
 let m:= {m with st:=m.st.tail}
 if call==0 then(-1,{m with fin:=1})
 else
  let it:=dX L call
  (it.next,if it.s.name == []then m else m.set it.s.name zX)
def Mc.fD (W:List Int) (m:Mc) (s:Sm):Int×Mc:=
 if s.has then
  let r:=m.bg s.x
  (r.1.1,if r.1.2 then r.2.event W s.id [r.1.1]else r.2)
 else(0,m.event W s.id [])
def Mc.args:List Ar→Mc→List Nat→Option (List Nat)×Mc
 | [],m,out=>(some out,m)
 | a::l,m,out=>
  if a.ref then Mc.args l m (out++ [m.cell a.name])
  else
   let r:=m.bg a.x
   if r.1.2 then Mc.args l {r.2 with mem:=r.2.mem++ [r.1.1]} (out++ [r.2.mem.length])else(none,r.2)
def Mc.call (p:Pg) (W:List Int) (m:Mc) (s:Sm):Int×Mc:=
 match Mc.args s.args m []with
 |(none,m)=>(-1,m)
 |(some l,m)=>if m.st.length > 100 then(-1,{m with fin:=5})else(m.event W s.id []).open p (p.at s.proc) l s.id
def firstM (l:List Sm) (other:Int):Int:=dB l other
def Mc.do (p:Pg) (L:List Im) (tape W:List Int) (m:Mc) (it:Im):Int×Mc:=
 let s:=it.s
 if s.kind==7 then((dX L it.loop).next,m.event W s.id [])
 else if s.kind==8 then(it.loop,m.event W s.id [])
 else if s.kind==10 then((match p.procs[it.proc.toNat]? with|some f=>(gM f.fin s.name (Sm.cf f.body)).1|none=>0),m.event W s.id [])
 else if s.kind==2 then
  match tape[m.reads.toNat]? with
  |none=>(-1,{m with fin:=3})
  |some n=>(it.next,(({m with reads:=m.reads+1} : Mc).set s.name n).event W s.id [n])
 else
  let r:=m.bg s.x
  if r.1.2 then
   let m:=r.2.event W s.id [r.1.1]
   let n:=r.1.1
   if s.kind==1 then(it.next,m.set s.name n)
   else if s.kind==3 then(it.next,{m with out:=m.out++ [n]})
   else if s.kind==5 then(if n==0 then firstM s.aM it.next else firstM s.aP it.next,m)
   else if s.kind==6 then(if n==0 then it.next else firstM s.aP s.id,m)
   else(it.next,m)
  else(-1,r.2)
def Mc.back (L:List Im) (m:Mc) (zX:Int):Option Int×Mc:=
 let r:=m.close L zX
 (if r.2.fin==0 then some r.1 else none,r.2)
def Mc.next (p:Pg) (L:List Im) (tape W:List Int) (fuel:Int) (at_:Int) (m:Mc):Option Int×Mc:=
 if at_ == -1 then m.back L 0
 else if m.steps==fuel then(none,{m with fin:=2})
 else
  let m:= {m with steps:=m.steps+1}
  let it:=dX L at_
  if it.s.kind==4 then
   let r:=m.call p W it.s
   (if r.2.fin==0 then some r.1 else none,r.2)
  else if it.s.kind==9 then
   let r:=m.fD W it.s
   if r.2.fin==0 then r.2.back L r.1 else(none,r.2)
  else
   let r:=m.do p L tape W it
   (if r.2.fin==0 then some r.1 else none,r.2)
def Mc.go (p:Pg) (L:List Im) (tape W:List Int) (fuel:Int):Nat→Int→Mc→Option Mc
 | 0,_,_=>none
 |N+1,at_,m=>
  match m.next p L tape W fuel at_ with
  |(none,m)=>some m
  |(some a,m)=>Mc.go p L tape W fuel N a m
def kz (p:Pg):Mc:=⟨[],List.replicate p.globals.length 0,0,0,0,[],[]⟩
def runM (p:Pg) (tape W:List Int) (fuel:Int):Option Mc:=
 let r:=(kz p).open p (p.at iX) [] 0
 Mc.go p p.aZ.L tape W fuel (2*fuel.toNat+3) r.1 r.2
theorem fz (W:List Int) (m:Mc) (id:Int) (bI:List Int):(m.event W id bI).st=m.st∧(m.event W id bI).mem=m.mem∧(m.event W id bI).fin=m.fin∧(m.event W id bI).steps=m.steps∧(m.event W id bI).reads=m.reads∧(m.event W id bI).out=m.out:=by
 unfold Mc.event;split<;>exact⟨rfl,rfl,rfl,rfl,rfl,rfl⟩
theorem iO (m:Mc) (x:Ex):(m.bg x).2.st=m.st∧(m.bg x).2.mem=m.mem∧(m.bg x).2.steps=m.steps∧(m.bg x).2.reads=m.reads∧(m.bg x).2.out=m.out∧(m.bg x).2.trace=m.trace:=by
 unfold Mc.bg;dsimp only;split<;>exact⟨rfl,rfl,rfl,rfl,rfl,rfl⟩
theorem wX : ∀ (l:List Ar) (m:Mc) (out:List Nat),(Mc.args l m out).2.st=m.st∧(Mc.args l m out).2.steps=m.steps
 | [],m,out=>⟨rfl,rfl⟩
 | a::l,m,out=>by
  simp only[Mc.args]
  split
  ·exact wX l m _
  ·have h:=iO m a.x
   split
   ·have:=wX l {(m.bg a.x).2 with mem:=(m.bg a.x).2.mem++ [(m.bg a.x).1.1]} (out++ [(m.bg a.x).2.mem.length])
    exact⟨this.1.trans h.1,this.2.trans h.2.2.1⟩
   ·exact⟨h.1,h.2.2.1⟩
theorem AY (p:Pg) (m:Mc) (i:Int) (l:List Nat) (c:Int):(m.open p i l c).2.st.length≤m.st.length+1∧(m.open p i l c).2.steps=m.steps:=by
 unfold Mc.open;split
 ·exact⟨Nat.le_succ _,rfl⟩
 ·exact⟨Nat.le_refl _,rfl⟩
theorem Qf (p:Pg) (W:List Int) (m:Mc) (s:Sm):(m.call p W s).2.st.length≤m.st.length+1∧(m.call p W s).2.steps=m.steps:=by
 have h:=wX s.args m []
 unfold Mc.call
 generalize Mc.args s.args m [] = r at *
 obtain⟨o,m1⟩:=r
 dsimp only at h
 cases o with
 |none=>dsimp only;rw[h.1,h.2];exact⟨Nat.le_succ _,rfl⟩
 | some l=>
  dsimp only
  split
  ·dsimp only;rw[h.1,h.2];exact⟨Nat.le_succ _,rfl⟩
  ·have h2:=AY p (m1.event W s.id []) (p.at s.proc) l s.id
   rw[(fz ..).1,(fz ..).2.2.2.1,h.1,h.2]at h2
   exact h2
theorem BI (W:List Int) (m:Mc) (s:Sm):(m.fD W s).2.st=m.st∧(m.fD W s).2.steps=m.steps:=by
 have h:=iO m s.x
 unfold Mc.fD
 dsimp only
 split
 ·split
  ·exact⟨(fz ..).1.trans h.1,(fz ..).2.2.2.1.trans h.2.2.1⟩
  ·exact⟨h.1,h.2.2.1⟩
 ·exact⟨(fz ..).1,(fz ..).2.2.2.1⟩
theorem Tx (p:Pg) (L:List Im) (tape W:List Int) (m:Mc) (it:Im):(m.do p L tape W it).2.st=m.st∧(m.do p L tape W it).2.steps=m.steps:=by
 have h:=iO m it.s.x
 have e:=fun(m:Mc) id bI=>(⟨(fz W m id bI).1,(fz W m id bI).2.2.2.1⟩:(m.event W id bI).st=m.st∧(m.event W id bI).steps=m.steps)
 unfold Mc.do
 dsimp only
 repeat' split
 all_goals first
  |exact e ..
  |exact⟨rfl,rfl⟩
  |exact⟨(e ..).1.trans h.1,(e ..).2.trans h.2.2.1⟩
  |exact⟨h.1,h.2.2.1⟩
theorem Nw (L:List Im) (m:Mc) (g:Int):(m.close L g).2.st=m.st.tail∧(m.close L g).2.steps=m.steps∧(m.st = []→(m.close L g).2.fin=1):=by
 unfold Mc.close
 dsimp only
 split
 ·exact⟨rfl,rfl,fun _=>rfl⟩
 ·rename_i hc
  refine⟨by split<;>rfl,by split<;>rfl,fun e=>absurd ?_ hc⟩
  simp[Mc.top,e]
theorem back_eq {L:List Im} {m:Mc} {g:Int} {a:Int} {m':Mc} (h:m.back L g=(some a,m')):m'.st.length<m.st.length∧m'.steps=m.steps:=by
 obtain⟨h1,h2,h3⟩:=Nw L m g
 unfold Mc.back at h
 dsimp only at h
 split at h
 ·rename_i hf
  simp only[Prod.mk.injEq]at h
  rw[← h.2]
  refine⟨?_,h2⟩
  rw[h1,List.length_tail]
  cases e:m.st with
  |nil=>rw[h3 e]at hf;cases hf
  |cons x l=>simp
 ·simp at h
theorem Qg {p:Pg} {L:List Im} {tape W:List Int} {fuel a a':Int} {m m':Mc} (hs:m.steps≤fuel) (h:m.next p L tape W fuel a=(some a',m')) :
 m'.steps≤fuel∧2*(fuel - m'.steps)+m'.st.length<2*(fuel - m.steps)+m.st.length:=by
 unfold Mc.next at h
 split at h
 ·have:=back_eq h;omega
 split at h
 ·simp at h
 rename_i fk
 have hD:m.steps<fuel:=by(have:m.steps≠fuel:=by simpa using fk);omega
 dsimp only at h
 split at h
 ·have h1:=Qf p W {m with steps:=m.steps+1} (dX L a).s
  simp only[Prod.mk.injEq]at h
  rw[← h.2]
  dsimp only at h1
  omega
 split at h
 ·have h1:=BI W {m with steps:=m.steps+1} (dX L a).s
  dsimp only at h1
  split at h
  ·have h2:=back_eq h
   rw[h1.1,h1.2]at h2
   omega
  ·simp at h
 ·have h1:=Tx p L tape W {m with steps:=m.steps+1} (dX L a)
  simp only[Prod.mk.injEq]at h
  rw[← h.2,h1.1,h1.2]
  dsimp only
  omega
theorem Qh (p:Pg) (L:List Im) (tape W:List Int) (fuel:Int) : ∀ (N:Nat) (a:Int) (m:Mc),m.steps≤fuel→2*(fuel - m.steps)+m.st.length<N→∃ m',Mc.go p L tape W fuel N a m=some m'
 | 0,_,_,_,h=>by omega
 | N+1,a,m,hs,h=>by
  simp only[Mc.go]
  cases e:m.next p L tape W fuel a with
  | mk o m1=>
   cases o with
   |none=>exact⟨m1,rfl⟩
   |some a1=>
    have:=Qg hs e
    exact Qh p L tape W fuel N a1 m1 this.1 (by omega)
theorem Kh (p:Pg) (tape W:List Int) {fuel:Int} (h:0≤fuel) : ∃ m,runM p tape W fuel=some m:=by
 unfold runM
 have h1:=AY p (kz p) (p.at iX) [] 0
 have e1:(kz p).st.length=0:=rfl
 have e2:(kz p).steps=0:=rfl
 rw[e1,e2]at h1
 exact Qh p _ tape W fuel _ _ _ (by rw[h1.2];exact h) (by rw[h1.2];omega)
structure Grow (m m':Mc):Prop where
 trace : ∃ t,m'.trace=m.trace++t
 out : ∃ t,m'.out=m.out++t
 reads:m.reads≤m'.reads
 steps:m.steps≤m'.steps
def pF (L:List Im) (a:Int):Prop:=a = -1∨(1≤a∧a≤(L.length:Int))
theorem qO {L:List Im} {a:Int} (h:pF L a) (hn:a≠ -1):dX L a∈L:=by
 rcases h with h|⟨h1,h2⟩
 ·exact absurd h hn
 ·unfold dX
  rw[List.getD_eq_getElem?_getD,List.getElem?_eq_getElem (show(a - 1).toNat<L.length by omega)]
  exact List.getElem_mem _
structure Cw (p:Pg) (L:List Im):Prop where
 id : ∀ x∈L,1≤x.s.id∧x.s.id≤(L.length:Int)
 next : ∀ x∈L,pF L x.next
 loop : ∀ x∈L,x.s.kind=7∨x.s.kind=8→1≤x.loop∧x.loop≤(L.length:Int)
 xO : ∀ x∈L,x.s.kind=10→∃ f,p.procs[x.proc.toNat]? = some f∧pF L (gM f.fin x.s.name (Sm.cf f.body)).1
 aP : ∀ x∈L,pF L (dB x.s.aP (-1))
 aM : ∀ x∈L,pF L (dB x.s.aM (-1))
 gQ : ∀ f∈p.procs,pF L (dB f.body (-1))
def qe (L:List Im) (m:Mc):Prop:=∀ fr∈m.st,fr.call=0∨(1≤fr.call∧fr.call≤(L.length:Int))
theorem Ga {L:List Im} {l:List Sm} {o:Int} (h:pF L (dB l (-1))) (ho:pF L o):pF L (firstM l o):=by
 cases l with
 |nil=>exact ho
 |cons s l=>exact h
theorem qe.of {L:List Im} {m m':Mc} (h:qe L m) (e:m'.st=m.st):qe L m':=by unfold qe;rw[e];exact h
def Told (L:List Im) (r:Option Int×Mc):Prop:=
 match r.1 with
 |some a=>pF L a∧qe L r.2∧r.2.fin=0∧(r.2.trace.length:Int)=r.2.steps
 |none=>((r.2.fin=1∨r.2.fin=2)∧(r.2.trace.length:Int)=r.2.steps)∨((r.2.fin=3∨r.2.fin=4∨r.2.fin=5)∧(r.2.trace.length:Int)+1=r.2.steps)
theorem wT {W:List Int} {m:Mc} {id:Int} {bI:List Int} (h:W.contains id=true):(m.event W id bI).trace=m.trace++ [(id,bI)]∧(m.event W id bI).fin=m.fin:=by
 unfold Mc.event;rw[if_pos h];exact⟨rfl,rfl⟩
theorem DY (m:Mc) (x:Ex) (h:m.fin=0):((m.bg x).1.2=true→(m.bg x).2.fin=0)∧((m.bg x).1.2=false→(m.bg x).2.fin=4):=by
 unfold Mc.bg
 dsimp only
 constructor
 ·intro e;rw[if_pos e];exact h
 ·intro e;rw[e];rfl
theorem Ki {p:Pg} {L:List Im} (hL:Cw p L) {m:Mc} {g:Int} (hs:qe L m) (hf:m.fin=0) (ht:(m.trace.length:Int)=m.steps):Told L (m.back L g):=by
 unfold Mc.back Mc.close
 dsimp only
 by_cases hc:(m.top.call==0)=true
 ·rw [if_pos hc]
  exact .inl ⟨.inl rfl,ht⟩
 ·rw [if_neg hc]
  have fk:m.top.call≠0:=by simpa using hc
  have To:1≤m.top.call∧m.top.call≤(L.length:Int):=by
   cases e:m.st with
   |nil=>simp[Mc.top,e]at fk
   |cons fr l=>
    have:m.top=fr:=by simp[Mc.top,e]
    rw[this]at fk ⊢
    exact(hs fr (by rw[e];exact List.mem_cons_self ..)).resolve_left fk
  have iM:=qO (L:=L) (.inr To) (by omega)
  have jm:qe L {m with st:=m.st.tail}:=fun fr ur=>hs fr (List.mem_of_mem_tail ur)
  have e0 : ∀ m1:Mc,m1.fin=0→(m1.fin==0)=true:=fun m1 h=>by rw[h];rfl
  split
  ·rw[if_pos (e0 _ hf)];exact⟨hL.next _ iM,jm,hf,ht⟩
  ·rw[if_pos (e0 _ (by exact hf))];exact⟨hL.next _ iM,jm.of rfl,hf,ht⟩
theorem BJ : ∀ (l:List Ar) (m:Mc) (out:List Nat),m.fin=0→(Mc.args l m out).2.trace=m.trace∧(match (Mc.args l m out).1 with|some _=>(Mc.args l m out).2.fin=0|none=>(Mc.args l m out).2.fin=4)
 | [],m,out,h=>⟨rfl,h⟩
 | a::l,m,out,h=>by
  have hw:=DY m a.x h
  have he:=iO m a.x
  simp only[Mc.args]
  by_cases c:a.ref=true
  ·rw[if_pos c];exact BJ l m _ h
  ·rw [if_neg c]
   by_cases c2:(m.bg a.x).1.2=true
   ·rw [if_pos c2]
    obtain⟨h1,h2⟩:=BJ l {(m.bg a.x).2 with mem:=(m.bg a.x).2.mem++ [(m.bg a.x).1.1]} (out++ [(m.bg a.x).2.mem.length]) (hw.1 c2)
    exact⟨h1.trans he.2.2.2.2.2,h2⟩
   ·rw [if_neg c2]
    exact⟨he.2.2.2.2.2,hw.2 (by simpa using c2)⟩
def DZ (L:List Im) (r:Int×Mc):Prop:=
 (r.2.fin=0∧pF L r.1∧qe L r.2∧(r.2.trace.length:Int)=r.2.steps)∨((r.2.fin=3∨r.2.fin=4∨r.2.fin=5)∧(r.2.trace.length:Int)+1=r.2.steps)
theorem DZ.told {L:List Im} {r:Int×Mc} (h:DZ L r):Told L (if r.2.fin==0 then some r.1 else none,r.2):=by
 obtain⟨a,m⟩:=r
 rcases h with ⟨h1,h2,h3,h4⟩|⟨h1,h2⟩
 ·dsimp only at h1 h2 h3 h4 ⊢
  rw[if_pos (by rw[h1];rfl)]
  exact⟨h2,h3,h1,h4⟩
 ·dsimp only at h1 h2 ⊢
  rw[if_neg (by simp only[beq_iff_eq];omega)]
  exact .inr ⟨h1,h2⟩
theorem Wu {p:Pg} {L:List Im} (hL:Cw p L) {W:List Int} {m:Mc} {x:Im} (hx:x∈L) (hw:W.contains x.s.id=true) (hs:qe L m) (hf:m.fin=0) (ht:(m.trace.length:Int)+1=m.steps) :
 DZ L (m.call p W x.s):=by
 have h:=wX x.s.args m []
 have h2:=BJ x.s.args m [] hf
 unfold Mc.call
 generalize Mc.args x.s.args m [] = r at *
 obtain⟨o,m1⟩:=r
 dsimp only at h h2
 cases o with
 |none=>
  dsimp only at h2 ⊢
  exact .inr ⟨.inr (.inl h2.2),by dsimp only;rw[h2.1,h.2];exact ht⟩
 | some l=>
  dsimp only at h2 ⊢
  by_cases c:m1.st.length > 100
  ·rw [if_pos c]
   exact .inr ⟨.inr (.inr rfl),by dsimp only;rw[h2.1,h.2];exact ht⟩
  ·rw [if_neg c]
   obtain⟨e1,e2⟩:=wT (m:=m1) (bI:= []) hw
   have e3:=fz W m1 x.s.id []
   have xb:qe L (m1.event W x.s.id []):=hs.of (e3.1.trans h.1)
   have yK:((m1.event W x.s.id []).trace.length:Int)=(m1.event W x.s.id []).steps:=by
    rw[e1,e3.2.2.2.1,h2.1,h.2,List.length_append]
    simp only[List.length_cons,List.length_nil];omega
   have P6:(m1.event W x.s.id []).fin=0:=e2.trans h2.2
   unfold Mc.open
   cases hp:p.procs[(p.at x.s.proc).toNat]? with
   |none=>exact .inl ⟨P6, .inl rfl,xb,yK⟩
   |some f=>
    refine .inl ⟨P6,hL.gQ f (List.mem_of_getElem? hp),fun fr ur=>?_,yK⟩
    rcases List.mem_cons.1 ur with rfl|ur
    ·exact .inr (hL.id x hx)
    ·exact xb fr ur
theorem Ty {p:Pg} {L:List Im} (hL:Cw p L) {W:List Int} {m:Mc} {x:Im} (hw:W.contains x.s.id=true) (hs:qe L m) (hf:m.fin=0) (ht:(m.trace.length:Int)+1=m.steps) :
 Told L (if(m.fD W x.s).2.fin==0 then(m.fD W x.s).2.back L (m.fD W x.s).1 else(none,(m.fD W x.s).2)):=by
 have he:=BI W m x.s
 have key:((m.fD W x.s).2.fin=0∧((m.fD W x.s).2.trace.length:Int)=(m.fD W x.s).2.steps)∨((m.fD W x.s).2.fin=4∧((m.fD W x.s).2.trace.length:Int)+1=(m.fD W x.s).2.steps):=by
  rw[he.2]
  unfold Mc.fD
  have Wv:=DY m x.s.x hf
  have Kj:=iO m x.s.x
  by_cases c:x.s.has=true
  ·rw [if_pos c]
   dsimp only
   by_cases c2:(m.bg x.s.x).1.2=true
   ·rw [if_pos c2]
    obtain⟨e1,e2⟩:=wT (m:=(m.bg x.s.x).2) (bI:= [(m.bg x.s.x).1.1]) hw
    refine .inl ⟨e2.trans (Wv.1 c2), ?_⟩
    rw[e1,Kj.2.2.2.2.2,List.length_append]
    simp only[List.length_cons,List.length_nil];omega
   ·rw [if_neg c2]
    exact .inr ⟨Wv.2 (by simpa using c2),by rw[Kj.2.2.2.2.2];exact ht⟩
  ·rw [if_neg c]
   obtain⟨e1,e2⟩:=wT (m:=m) (bI:= []) hw
   refine .inl ⟨e2.trans hf, ?_⟩
   dsimp only
   rw[e1,List.length_append]
   simp only[List.length_cons,List.length_nil];omega
 generalize m.fD W x.s=r at *
 rcases key with ⟨k1,k2⟩|⟨k1,k2⟩
 ·rw [if_pos (by rw [k1];rfl)]
  exact Ki hL (hs.of he.1) k1 k2
 ·rw [if_neg (by simp only [beq_iff_eq];omega)]
  exact .inr ⟨.inr (.inl k1),k2⟩
theorem aeq {p:Pg} {L:List Im} (hL:Cw p L) {tape W:List Int} {m:Mc} {x:Im} (hx:x∈L) (hw:W.contains x.s.id=true) (hs:qe L m) (hf:m.fin=0) (ht:(m.trace.length:Int)+1=m.steps) :
 DZ L (m.do p L tape W x):=by
 have go : ∀ {m1:Mc} {a:Int} {bI:List Int},m1.trace=m.trace→m1.steps=m.steps→m1.st=m.st→m1.fin=0→pF L a→DZ L (a,m1.event W x.s.id bI):=fun {m1 a bI} e1 e2 e3 e4 ha=>by
  obtain⟨g1,g2⟩:=wT (m:=m1) (bI:=bI) hw
  have g3:=fz W m1 x.s.id bI
  refine .inl ⟨g2.trans e4,ha,hs.of (g3.1.trans e3), ?_⟩
  dsimp only
  rw[g1,g3.2.2.2.1,e1,e2,List.length_append]
  simp only[List.length_cons,List.length_nil];omega
 have Wv:=DY m x.s.x hf
 have Kj:=iO m x.s.x
 have Ww:=hL.id x hx
 unfold Mc.do
 dsimp only
 split
 ·rename_i c
  have hl:=hL.loop x hx (.inl (by simpa using c))
  exact go rfl rfl rfl hf (hL.next _ (qO (.inr hl) (by omega)))
 split
 ·rename_i c
  exact go rfl rfl rfl hf (.inr (hL.loop x hx (.inr (by simpa using c))))
 split
 ·rename_i c
  obtain⟨f,h1,h2⟩:=hL.xO x hx (by simpa using c)
  rw[h1]
  exact go rfl rfl rfl hf h2
 split
 ·split
  ·exact .inr ⟨.inl rfl,ht⟩
  ·exact go rfl rfl rfl hf (hL.next x hx)
 ·by_cases c2:(m.bg x.s.x).1.2=true
  ·rw [if_pos c2]
   have base:=fun(a:Int) (ha:pF L a)=>go (m1:=(m.bg x.s.x).2) (a:=a) (bI:= [(m.bg x.s.x).1.1]) Kj.2.2.2.2.2 Kj.2.2.1 Kj.1 (Wv.1 c2) ha
   have same : ∀ {a:Int} {m1 m2:Mc},DZ L (a,m1)→m2.fin=m1.fin→m2.st=m1.st→m2.trace=m1.trace→m2.steps=m1.steps→DZ L (a,m2):=fun {a m1 m2} h q1 q2 q3 q4=>by
    unfold DZ qe at *
    dsimp only at *
    rw[q1,q2,q3,q4];exact h
   split
   ·exact same (base _ (hL.next x hx)) rfl rfl rfl rfl
   split
   ·exact same (base _ (hL.next x hx)) rfl rfl rfl rfl
   split
   ·refine base _ ?_
    split
    ·exact Ga (hL.aM x hx) (hL.next x hx)
    ·exact Ga (hL.aP x hx) (hL.next x hx)
   split
   ·refine base _ ?_
    split
    ·exact hL.next x hx
    ·exact Ga (hL.aP x hx) (.inr Ww)
   ·exact base _ (hL.next x hx)
  ·rw [if_neg c2]
   exact .inr ⟨.inr (.inl (Wv.2 (by simpa using c2))),by dsimp only;rw[Kj.2.2.2.2.2,Kj.2.2.1];exact ht⟩
theorem Kk {p:Pg} {L:List Im} (hL:Cw p L) {tape W:List Int} (hW : ∀ x∈L,W.contains x.s.id=true) {fuel a:Int} {m:Mc} (ha:pF L a) (hs:qe L m) (hf:m.fin=0) (ht:(m.trace.length:Int)=m.steps) :
 Told L (m.next p L tape W fuel a):=by
 unfold Mc.next
 by_cases c1:(a == -1)=true
 ·rw[if_pos c1];exact Ki hL hs hf ht
 ·rw [if_neg c1]
  by_cases c2:(m.steps==fuel)=true
  ·rw[if_pos c2];exact .inl ⟨.inr rfl,ht⟩
  ·rw [if_neg c2]
   have hx:=qO ha (by simpa using c1)
   have oq:qe L {m with steps:=m.steps+1}:=hs.of rfl
   have Ci:((({m with steps:=m.steps+1} : Mc).trace.length:Nat):Int)+1=({m with steps:=m.steps+1} : Mc).steps:=by dsimp only;omega
   dsimp only
   split
   ·exact(Wu hL hx (hW _ hx) oq hf Ci).told
   split
   ·exact Ty hL (hW _ hx) oq hf Ci
   ·exact(aeq hL hx (hW _ hx) oq hf Ci).told
def ZQ (m:Mc):Prop:=((m.fin=1∨m.fin=2)∧(m.trace.length:Int)=m.steps)∨((m.fin=3∨m.fin=4∨m.fin=5)∧(m.trace.length:Int)+1=m.steps)
theorem Qi {p:Pg} {L:List Im} (hL:Cw p L) {tape W:List Int} (hW : ∀ x∈L,W.contains x.s.id=true) {fuel:Int} : ∀ (N:Nat) (a:Int) (m m':Mc),pF L a→qe L m→m.fin=0→(m.trace.length:Int)=m.steps→
 Mc.go p L tape W fuel N a m=some m'→ZQ m'
 | 0,_,_,_,_,_,_,_,h=>by simp[Mc.go]at h
 |N+1,a,m,m',ha,hs,hf,ht,h=>by
  have hn:=Kk (fuel:=fuel) (tape:=tape) hL hW ha hs hf ht
  simp only[Mc.go]at h
  split at h
  ·rename_i m1 e;rw[e]at hn;cases h;exact hn
  ·rename_i a1 m1 e;rw[e]at hn;exact Qi hL hW N a1 m1 m' hn.1 hn.2.1 hn.2.2.1 hn.2.2.2 h
theorem Nx {p:Pg} {L:List Im} (hL:Cw p L):pF L ((kz p).open p (p.at iX) [] 0).1∧qe L ((kz p).open p (p.at iX) [] 0).2∧((kz p).open p (p.at iX) [] 0).2.fin=0∧
 ((((kz p).open p (p.at iX) [] 0).2.trace.length:Nat):Int)=((kz p).open p (p.at iX) [] 0).2.steps:=by
 unfold Mc.open
 cases hp:p.procs[(p.at iX).toNat]? with
 |none=>exact⟨.inl rfl,fun fr h=>by simp[kz]at h,rfl,rfl⟩
 |some f=>
  refine⟨hL.gQ f (List.mem_of_getElem? hp),fun fr h=>?_,rfl,rfl⟩
  rcases List.mem_cons.1 h with rfl|h
  ·exact .inl rfl
  ·simp[kz]at h
theorem Wx {p:Pg} (hL:Cw p p.aZ.L) {tape W:List Int} (hW : ∀ x∈p.aZ.L,W.contains x.s.id=true) {fuel:Int} {m:Mc} (h:runM p tape W fuel=some m):ZQ m:=by
 obtain⟨h1,h2,h3,h4⟩:=Nx hL
 exact Qi hL hW _ _ _ _ h1 h2 h3 h4 h
theorem Ny (p:Pg) (L:List Im) (tape W:List Int) {fuel:Int} : ∀ (N:Nat) (a:Int) (m m':Mc),m.steps≤fuel→Mc.go p L tape W fuel N a m=some m'→m'.steps≤fuel
 | 0,_,_,_,_,h=>by simp[Mc.go]at h
 | N+1,a,m,m',hs,h=>by
  simp only[Mc.go]at h
  cases e:m.next p L tape W fuel a with
  | mk o m1=>
   rw[e]at h
   cases o with
   |some a1=>exact Ny p L tape W N a1 m1 m' (Qg hs e).1 h
   | none=>
    cases h
    unfold Mc.next at e
    have hb : ∀ {m:Mc} {g:Int} {o:Option Int} {m2:Mc},m.back L g=(o,m2)→m2.steps=m.steps:=fun {m g o m2} h=>by
     have:=(Nw L m g).2.1
     unfold Mc.back at h
     simp only[Prod.mk.injEq]at h
     rw[← h.2];exact this
    split at e
    ·rw[hb e];exact hs
    split at e
    ·simp only[Prod.mk.injEq,true_and]at e;rw[← e];exact hs
    rename_i fk
    have hD:m.steps<fuel:=by(have:m.steps≠fuel:=by simpa using fk);omega
    dsimp only at e
    split at e
    ·have h1:=(Qf p W {m with steps:=m.steps+1} (dX L a).s).2
     simp only[Prod.mk.injEq]at e
     rw[← e.2,h1];dsimp only;omega
    split at e
    ·have h1:=(BI W {m with steps:=m.steps+1} (dX L a).s).2
     split at e
     ·rw[hb e,h1];dsimp only;omega
     ·simp only[Prod.mk.injEq,true_and]at e;rw[← e,h1];dsimp only;omega
    ·have h1:=(Tx p L tape W {m with steps:=m.steps+1} (dX L a)).2
     simp only[Prod.mk.injEq]at e
     rw[← e.2,h1];dsimp only;omega
def Fm (a b t:aK):aK:=if t==a then b else if t==b then a else t
mutual
def Ex.swap (a b:aK):Ex→Ex
 |⟨op,n,name,kids⟩=>⟨op,n,Fm a b name,Ex.BK a b kids⟩
def Ex.BK (a b:aK):List Ex→List Ex
 | []=> []
 |x::l=>x.swap a b::Ex.BK a b l
end
def Ar.swap (a b:aK) (x:Ar):Ar:=⟨x.ref,Fm a b x.name,x.x.swap a b⟩
mutual
def Sm.swap (a b:aK):Sm→Sm
 |⟨id,kind,labels,name,proc,x,has,args,aP,aM⟩=>⟨id,kind,labels.map (Fm a b),Fm a b name,Fm a b proc,x.swap a b,has,args.map (Ar.swap a b),Sm.BK a b aP,Sm.BK a b aM⟩
def Sm.BK (a b:aK):List Sm→List Sm
 | []=> []
 |s::l=>s.swap a b::Sm.BK a b l
end
def Pm.swap (a b:aK) (x:Pm):Pm:=⟨Fm a b x.name,x.ref⟩
def Pc.swap (a b:aK) (f:Pc):Pc:=⟨Fm a b f.name,f.params.map (Pm.swap a b),f.vars.map (Fm a b),Sm.BK a b f.body,f.fin.map (Fm a b)⟩
def Pg.swap (a b:aK) (p:Pg):Pg:=⟨p.globals.map (Fm a b),p.procs.map (Pc.swap a b)⟩
def It.swap (a b:aK) (i:It):It:=⟨i.s.swap a b,i.deep,i.bW,i.aM⟩
theorem Wy {out:List aK} {x y:aK} : y∈vh out x↔y∈out∨y=x:=by
 unfold vh
 split
 ·rename_i e
  have:=(fy _ _).1 e
  constructor
  ·exact .inl
  ·rintro(h|rfl)<;>assumption
 ·simp
theorem xP {y:aK} : ∀ {l out:List aK},y∈uN out l↔y∈out∨y∈l
 | [],out=>by simp[uN]
 |x::l,out=>by
  simp only[uN,xP (l:=l),Wy,List.mem_cons,or_assoc]
theorem Nz (p:Pg) {y:aK} : ∀ (n i:Nat) (out:List aK),y∈out→y∈od p n i out
 | 0,i,out,h=>h
 |n+1,i,out,h=>by
  simp only[od]
  split
  ·exact Nz p n _ _ (xP.2 (.inl h))
  ·exact h
theorem NA : ∀ (l out:List aK),∃ e,uN out l=out++e
 | [],out=>⟨[],by simp[uN]⟩
 |x::l,out=>by
  obtain⟨e,h⟩:=NA l (vh out x)
  simp only[uN,h]
  unfold vh
  split
  ·exact⟨e,rfl⟩
  ·exact⟨x::e,by simp⟩
theorem Fo {p:Pg} (mS:(p.scope.1==0)=true) : ∀ (n i:Nat) (out:List aK),Good p out→n+i=p.procs.length+1→(∀ (j:Nat) (x:aK),j<i→out[j]? = some x→∀ y∈pS p x,y∈out)→
 ∀ x∈od p n i out,∀ y∈pS p x,y∈od p n i out
 | 0,i,out,hg,hn,hc,x,hx,y,hy=>by
  simp only[od]at hx ⊢
  obtain⟨j,hj⟩:=List.getElem?_of_mem hx
  have:=hg.len
  have:=(List.getElem?_eq_some_iff.1 hj).1
  exact hc j x (by omega) hj y hy
 | n+1,i,out,hg,hn,hc,x,hx,y,hy=>by
  simp only[od]at hx ⊢
  split at hx
  ·rename_i z hz
   obtain⟨g,nD⟩:=hg.2 z (List.mem_of_getElem? hz)
   refine Fo mS n (i+1) _ (hg.add fun y m=>?_) (by omega) (fun j x hj hjx y hy=>?_) x hx y hy
   ·unfold pS at m
    rw[nD]at m
    exact zW mS (sw nD).1 m
   ·obtain⟨e,he⟩:=NA (pS p z) out
    have hi:=(List.getElem?_eq_some_iff.1 hz).1
    rw[he,List.getElem?_append_left (by omega)]at hjx
    rcases Nat.lt_or_ge j i with h1|h1
    ·exact xP.2 (.inl (hc j x h1 hjx y hy))
    ·have:j=i:=by omega
     subst this
     rw[hz]at hjx
     cases hjx
     exact xP.2 (.inr hy)
  ·rename_i hz
   obtain⟨j,hj⟩:=List.getElem?_of_mem hx
   have h1:=(List.getElem?_eq_some_iff.1 hj).1
   have h2:=List.getElem?_eq_none_iff.1 hz
   exact hc j x (by omega) hj y hy
theorem HO {p:Pg} {S:aK→Prop} (hS : ∀ x,S x→∀ y∈pS p x,S y) : ∀ (n i:Nat) (out:List aK),(∀ x∈out,S x)→∀ x∈od p n i out,S x
 | 0,i,out,h,x,hx=>h x hx
 | n+1,i,out,h,x,hx=>by
  simp only[od]at hx
  split at hx
  ·rename_i z hz
   exact HO hS n _ _ (fun y hy=>(xP.1 hy).elim (h y) (hS z (h z (List.mem_of_getElem? hz)) y)) x hx
  ·exact h x hx
theorem Kl {p:Pg} {x:aK} : ∀ {l out:List aK},x∈q6 p out l↔x∈out∨(x∈l∧x∈p.globals)
 | [],out=>by simp[q6]
 | v::l,out=>by
  simp only[q6,Kl (l:=l),List.mem_cons]
  cases e:fC p.globals v
  ·have:v∉p.globals:=fun m=>by rw [(fy _ _).2 m]at e;cases e
   simp only[Bool.false_eq_true,if_false]
   constructor
   ·rintro(h | ⟨h,k⟩)
    ·exact .inl h
    ·exact .inr ⟨.inr h,k⟩
   ·rintro(h | ⟨rfl | h,k⟩)
    ·exact .inl h
    ·exact absurd k this
    ·exact .inr ⟨h,k⟩
  ·have:v∈p.globals:=(fy _ _).1 e
   simp only[if_true,List.mem_append,List.mem_singleton]
   constructor
   ·rintro((h | rfl) | ⟨h,k⟩)
    ·exact .inl h
    ·exact .inr ⟨.inl rfl,this⟩
    ·exact .inr ⟨.inr h,k⟩
   ·rintro(h | ⟨rfl | h,k⟩)
    ·exact .inl (.inl h)
    ·exact .inl (.inr rfl)
    ·exact .inr ⟨h,k⟩
def se:List Sm→List aK
 | []=> []
 |v::l=>v.said++se l
theorem Km {p:Pg} {x:aK} : ∀ {l:List Sm} {out:List aK},x∈q7 p out l↔x∈out∨(x∈se l∧x∈p.globals)
 | [],out=>by simp[q7,se]
 | v::l,out=>by
  simp only[q7,Km (l:=l),Kl,se,List.mem_append]
  constructor
  ·rintro((h | ⟨h,k⟩) | ⟨h,k⟩)
   ·exact .inl h
   ·exact .inr ⟨.inl h,k⟩
   ·exact .inr ⟨.inr h,k⟩
  ·rintro(h | ⟨h | h,k⟩)
   ·exact .inl (.inl h)
   ·exact .inl (.inr ⟨h,k⟩)
   ·exact .inr ⟨h,k⟩
def BL (p:Pg):List aK→List aK
 | []=> []
 |n::l=>se (oN p n)++BL p l
theorem Kn {p:Pg} {x:aK} : ∀ {l:List aK},x∈BL p l↔∃ n∈l,x∈se (oN p n)
 | []=>by simp[BL]
 |n::l=>by simp[BL,Kn (l:=l)]
theorem Ko {p:Pg} {x:aK} : ∀ {l out:List aK},x∈sc p out l↔x∈out∨(x∈BL p l∧x∈p.globals)
 | [],out=>by simp[sc,BL]
 | v::l,out=>by
  simp only[sc,Ko (l:=l),Km,BL,List.mem_append]
  constructor
  ·rintro((h | ⟨h,k⟩) | ⟨h,k⟩)
   ·exact .inl h
   ·exact .inr ⟨.inl h,k⟩
   ·exact .inr ⟨.inr h,k⟩
  ·rintro(h | ⟨h | h,k⟩)
   ·exact .inl (.inl h)
   ·exact .inl (.inr ⟨h,k⟩)
   ·exact .inr ⟨h,k⟩
theorem Kp {p:Pg} {nm x:aK} {f:Pc} (h:p.uO nm=some f):x∈p.mT nm↔(∃ n∈p.work nm,x∈se (oN p n))∧x∈p.globals:=by
 unfold Pg.mT
 rw[h]
 dsimp only
 rw[(lB _).2]
 unfold Pg.sx
 rw[Ko,Kn]
 simp only[(lB _).2,List.not_mem_nil,false_or]
set_option maxRecDepth 8000
open Go.Proofs
def nr (nm:aK) (T:List aK) (seen:List aK):List Ar→Bool
 | []=>true
 |a::l=>if a.ref then(if fC seen a.name ||(a.name==nm ||fC T a.name)then false else nr nm T (seen++ [a.name]) l)else nr nm T seen l
def apM (T:List aK) (seen:List aK):List Ar→Bool
 | []=>true
 |a::l=>if a.ref then(if fC seen a.name ||fC T a.name then false else apM T (seen++ [a.name]) l)else apM T seen l
def Sm.atC (v:Sm):List aK:=if v.name != []then [v.name]else []
theorem ZR {v:Sm} (sJ:v.args.length<1000000000) {T:List aK} (hT:T.length<4611686018427387904) (s:St) :
 aH Tryz.prog uH [.agg (bd v), .slice .shared 1 (T.map encStr)] s (.bool (nr v.name T [] v.args)) s:=by
 refine aH.pure ?_ (by simp[D.bM,D.ok,pz,Tag.ok,fI]) rfl s
 generalize hR:nr v.name T [] v.args=R
 have hcT:=fun x s=>tB hT x s
 unfold S0
 refine aH.go F0 rfl fun B Q hB hQ=>?_
 have⟨hD,hZ,gA,gB⟩:=bX
 repeat' (first
 |simp only[go_sem,hD,hZ,gA,gB]
 |(with_reducible refine aI hQ ?_;exact bA))
 refine bp.sq 5 1 rfl ?_
 simp only[go_sem,hD,hZ,gA,gB]
 refine fG 1 1 (bp.ind (ι:=List Ar×Nat×List aK×Nat) (fun i=>v.args.drop i.2.1=i.1∧nr v.name T i.2.2.1 i.1=R∧i.2.2.1.length≤i.2.1∧i.2.2.2=i.2.2.1.length) (fun i=>i.1.length)
  (fun i=> [(1, .slice .shared 1 (T.map encStr)),(2, .ptr 0 0),(5, .slice (.tok 0) 1 (i.2.2.1.map encStr)),(9, .slice .shared 6 (v.args.map fc)),(10, .int .i64 (v.args.length:Int)),(11, .int .i64 (i.2.1:Int))]) (fun i=>⟨[bd v],[some i.2.2.2]⟩) ?_ (v.args,0,[],0) ⟨rfl,hR,Nat.le_refl _,rfl⟩)
 clear hR
 rintro⟨rest,k,seen,n'⟩ ⟨h1,h2,h3,h4⟩ IH
 dsimp only at h1 h2 h3 h4
 subst h4
 cases rest with
 |nil=>
  have hD:=drop_nil h1
  simp only[nr]at h2
  subst h2
  repeat' (first
 |simp only[go_sem,hD,hZ,gA,gB]
 |(with_reducible refine aI hQ ?_;exact bA))
 | cons a rest=>
  obtain⟨hZ,g2,hD,g4⟩:=drop_cons h1
  have cu:k<4611686018427387904:=by omega
  have gA:(seen.length+1)*17≤bq:=by unfold bq;omega
  have o9:=fun g s=>kv (l:=seen) (by omega) a.name g s
  simp only[nr]at h2
  rcases Bool.eq_false_or_eq_true a.ref with c1|c1
  case inr=>
   simp only[c1,Bool.false_eq_true,if_false]at h2
   repeat' (first
 |simp only[go_sem,hD,hZ,gA,gB,c1,Bool.not_false]
 | (with_reducible refine aI hQ ?_;exact bA))
   refine fi 1 1 ?_ ?_ (IH (rest,k+1,seen,_) ⟨g2,h2,by dsimp only;omega,rfl⟩ (Nat.lt_succ_self _))
   ·(simp only[go_sem,hD,hZ,gA,gB,aN cu];try exact bY)
   ·(simp only[go_sem,hD,hZ,gA,gB,aN cu];try exact bY)
  simp only[c1,if_true]at h2
  rcases Bool.eq_false_or_eq_true (fC seen a.name)with c2|c2
  ·simp only [c2,Bool.true_or,if_true]at h2
   subst h2
   repeat' (first
 |simp only[go_sem,hD,hZ,gA,gB,c1,c2,Bool.not_true]
 |(with_reducible refine CU (o9 _ _) ?_)
 |(with_reducible refine CU (hcT _ _) ?_)
 | (with_reducible refine aI hQ ?_;exact bA))
  rcases Bool.eq_false_or_eq_true (a.name==v.name)with c3|c3
  ·simp only [c2,c3,Bool.false_or,Bool.true_or,if_true]at h2
   subst h2
   repeat' (first
 |simp only[go_sem,hD,hZ,gA,gB,c1,c2,c3,Bool.not_true]
 |(with_reducible refine CU (o9 _ _) ?_)
 |(with_reducible refine CU (hcT _ _) ?_)
 | (with_reducible refine aI hQ ?_;exact bA))
  rcases Bool.eq_false_or_eq_true (fC T a.name)with c4|c4
  ·simp only [c2,c3,c4,Bool.false_or,if_true]at h2
   subst h2
   repeat' (first
 |simp only[go_sem,hD,hZ,gA,gB,c1,c2,c3,c4,Bool.not_true]
 |(with_reducible refine CU (o9 _ _) ?_)
 |(with_reducible refine CU (hcT _ _) ?_)
 | (with_reducible refine aI hQ ?_;exact bA))
  ·simp only [c2,c3,c4,Bool.false_or,Bool.false_eq_true,if_false]at h2
   repeat' (first
 |simp only[go_sem,hD,hZ,gA,gB,c1,c2,c3,c4,Bool.not_true]
 |(with_reducible refine CU (o9 _ _) ?_)
 |(with_reducible refine CU (hcT _ _) ?_)
 | (with_reducible refine aI hQ ?_;exact bA))
   refine fi 1 1 ?_ ?_ (IH (rest,k+1,seen++ [a.name],seen.length+1) ⟨g2,h2,by simp;omega,by simp⟩ (Nat.lt_succ_self _))
   ·(simp only[go_sem,hD,hZ,gA,gB,aN cu,List.map_append,List.map_cons,List.map_nil,encStr];try exact bY)
   ·(simp only[go_sem,hD,hZ,gA,gB,aN cu,List.map_append,List.map_cons,List.map_nil,encStr];try exact bY)
def oP (p:Pg):List Pc→List D
 | []=> []
 |f::l=> .str f.name:: .slice .shared 1 ((p.mT f.name).map encStr)::oP p l
theorem Wz (p:Pg) : ∀ l,D.bM 0 0 (oP p l)=true
 | []=>rfl
 |f::l=>by simp only[oP,D.bM,D.ok,Tag.ok,fI,Wz p l];rfl
theorem aer (n m:Nat) (p:Pg) (l:List Pc):D.iD n m (oP p l)=oP p l:=jg n m _ (Wz p l)
attribute [go_sem] aer
theorem NB (p:Pg) : ∀ l m,oP p (l++m)=oP p l++oP p m
 | [],m=>rfl
 |f::l,m=>by simp only[List.cons_append,oP,NB p l m]
theorem NC {p:Pg} {nm:aK} {d:D} : ∀ {l:List Pc},nm∉l.map (·.name)→zl nm d (oP p l)=some (oP p l++ [.str nm,d])
 | [],_=>rfl
 |f::l,h=>by
  simp only[List.map_cons,List.mem_cons,not_or]at h
  have:(f.name==nm)=false:=by simpa using fun e=>h.1 e.symm
  simp only[oP,zl,this,Bool.false_eq_true,if_false,NC h.2,List.cons_append]
theorem ND {p:Pg} {nm:aK} {z:D} : ∀ {l:List Pc} {f:Pc},iC nm l=some f→A1 nm z (oP p l)=some (.slice .shared 1 ((p.mT nm).map encStr))
 | g::l,f,h=>by
  simp only[iC]at h
  simp only[oP,A1]
  split at h
  ·rename_i e
   rw[if_pos e,eq_of_beq e]
  ·rename_i e
   rw[if_neg e]
   exact ND h
theorem aes (l:List aK) : ∀ (s:List aK),rS s l=false→∀ a x b,l=a++x::b→x∉s++a:=by
 induction l with
 |nil=>intro s _ a x b e;cases a<;>cases e
 | cons y l ih=>
  intro s h a x b e
  simp only[rS]at h
  split at h
  ·cases h
  ·rename_i hy
   cases a with
   |nil=>cases e;simpa[← fy]using hy
   |cons z a=>
    cases e
    have:=ih (s++ [y]) h a x b rfl
    simpa using this
end Go.Abs
namespace Go.Abs
set_option maxRecDepth 8000
open Go.Proofs
theorem NF {p:Pg} (h:(p.arity.1==0)=true):(p.scope.1==0)=true∧∀ v∈p.pre,(v.kind==4)=true→v.nG p=true:=by
 unfold Pg.arity at h
 split at h
 ·rename_i e
  refine⟨e,fun v hv hk=>?_⟩
  have : ∀ l:List Sm,((rT 6 (HC p l)).1==0)=true→∀ v∈l,(v.kind==4)=true→v.nG p=true:=by
   intro l
   induction l with
   |nil=>intro _ v m;cases m
   | cons a l ih=>
    intro h v m hk
    simp only[HC]at h
    split at h
    ·cases h
    ·rename_i c
     rcases List.mem_cons.1 m with rfl|m
     ·simpa[hk]using c
     ·exact ih h v m hk
  exact this _ h v hv hk
 ·cases h
theorem Kq {p:Pg} {v:Sm} (h:v.nG p=true) : ∃ f,p.find v.proc=some f:=by
 unfold Sm.nG at h
 cases e:p.find v.proc with
 |some f=>exact⟨f,rfl⟩
 |none=>rw[e]at h;simp at h
theorem NG : ∀ {l:List It} {n:Nat} {i:It},It.fP n l=true→i∈l→i.s.one=true
 | j::l,n,i,h,m=>by
  simp only[It.fP]at h
  split at h
  ·cases h
  ·rename_i c
   simp only[Bool.or_eq_true,not_or,Bool.not_eq_true',Bool.not_eq_false]at c
   rcases List.mem_cons.1 m with rfl|m
   ·exact c.2
   ·exact NG h m
theorem Jc {p:Pg} (h:p.may=true) : ∀ v∈p.pre,v.one=true:=fun v m=>by
 rw[← (Bz h).2,List.mem_map]at m
 obtain⟨i,hi,rfl⟩:=m
 exact NG (uM h).2 hi
def Sm.q8 (p:Pg) (v:Sm):Bool:=nr v.name (p.mT v.proc) [] v.args
def HP (p:Pg):List Sm→Option Sm
 | []=>none
 |v::l=>if v.kind==4 && !(v.q8 p)then some v else HP p l
def Pg.alias (p:Pg):Int×Int:=if p.arity.1==0 then rT 8 (HP p p.pre)else(1,0)
theorem NH {p:Pg} (h:p.jA) (nm:aK):(p.mT nm).length<4611686018427387904:=by
 unfold Pg.mT
 cases hs:p.uO nm with
 |none=>dsimp only;decide
 |some f=>
  obtain⟨mS,hf⟩:=DU hs
  have h1:=(Nr mS hf).len
  have h2:=h.procs
  have h3:=(BF h (lj (p.work nm)) []).2
  have h4:(lj (p.work nm)).length*1800000≤900000*1800000:=Nat.mul_le_mul_right _ (by omega)
  have h5:(lj (p.sx nm)).length≤(p.sx nm).length:=yU _ _ (wQ (lB _).1) fun x m=>((lB _).2 x).1 m
  dsimp only
  unfold Pg.sx at *
  simp only[List.length_nil]at h3
  omega
theorem Tz {v:Sm} (hv:v.oI):v.args.length<1000000000:=by have:=Ar.dQ v.args;have:=hv.2.2;omega
theorem WA {p:Pg} (h:p.jA) (s:St):aH Tryz.prog v7 [.agg (bO p)] s (.agg [.int .i64 p.alias.1, .int .i64 p.alias.2]) s:=by
 refine aH.pure ?_ (by simp[D.bM,D.ok,iy]) rfl s
 obtain⟨ui,rn,tD⟩:=h.procs
 have rf:=fun s=>Nk h s
 have dA:=fun s=>Ev (p:=p) (by omega) s
 have hL:=(kJ p).1
 have yT:=qJ p
 generalize hR:p.alias=R
 simp only[Pg.alias]at hR
 unfold S0
 have b0:(p.arity.1 != 0) = !(p.arity.1==0):=rfl
 rcases Bool.eq_false_or_eq_true (p.arity.1==0)with b1|b1
 case inr=>
  rw[b1]at b0
  simp only[b1,Bool.false_eq_true,if_false]at hR
  subst hR
  refine aH.go yE rfl fun B Q hB hQ=>?_
  have⟨hD,hZ,gA,gB⟩:=bX
  repeat' (first
 |simp only[go_sem,hD,hZ,gA,gB,b0,Bool.not_false]
 |(with_reducible refine CU (rf _) ?_)
 |(with_reducible refine aI hQ ?_;exact bA))
 rw[b1]at b0
 obtain⟨mS,j9⟩:=NF b1
 have htw:=(F6 mS).2.1
 simp only[b1,if_true, ← hL]at hR
 refine aH.go yE rfl fun B Q hB hQ=>?_
 have⟨hD,hZ,gA,gB⟩:=bX
 repeat' (first
 |simp only[go_sem,hD,hZ,gA,gB,b0,Bool.not_true]
 |(with_reducible refine CU (rf _) ?_)
 |(with_reducible refine aI hQ ?_;exact bA))
 refine fi 3 0 ?_ ?_ (bp.ind (ι:=List Pc×Nat×List Pc) (fun i=>p.procs.drop i.2.1=i.1∧p.procs=i.2.2++i.1) (fun i=>i.1.length)
  (fun i=> [(1, .ptr 0 0),(2, .ptr 1 0),(3, .gR 2),(15, .slice .shared 5 (p.procs.map bN)),(16, .int .i64 (p.procs.length:Int)),(17, .int .i64 (i.2.1:Int))]) (fun i=>⟨[bO p,[.int .i64 0, .int .i64 0],oP p i.2.2],[]⟩) ?_ (p.procs,0,[]) ⟨rfl,rfl⟩)
 ·(simp only[go_sem,hD,hZ,gA,gB,oP];try exact bY)
 ·(simp only[go_sem,hD,hZ,gA,gB,oP];try exact bY)
 rintro⟨rest,k,done⟩ ⟨h1,h2⟩ IH
 dsimp only at h1 h2
 cases rest with
 | cons a rest=>
  obtain⟨hZ,g2,hD,g4⟩:=drop_cons h1
  have cu:k<4611686018427387904:=by omega
  have uh:=fun s=>Wm h a.name s
  have hnm:a.name∉done.map (·.name):=by
   have:=aes _ [] htw (done.map (·.name)) a.name (rest.map (·.name)) (by simp[Pg.pn,h2])
   simpa using this
  have hmp:zl a.name (.slice .shared 1 ((p.mT a.name).map encStr)) (oP p done)=some (oP p (done++ [a])):=by
   rw[NC hnm,NB];rfl
  repeat' (first
 |simp only[go_sem,hD,hZ,gA,gB,hmp]
 |(with_reducible refine CU (uh _) ?_)
 |(with_reducible refine aI hQ ?_;exact bA))
  refine fi 3 0 ?_ ?_ (IH (rest,k+1,done++ [a]) ⟨g2,by rw[h2];simp⟩ (Nat.lt_succ_self _))
  ·(simp only[go_sem,hD,hZ,gA,gB,aN cu];try exact bY)
  ·(simp only[go_sem,hD,hZ,gA,gB,aN cu];try exact bY)
 |nil=>
  have hD:=drop_nil h1
  rw[List.append_nil]at h2
  subst h2
  repeat' (first
 |simp only[go_sem,hD,hZ,gA,gB,pE]
 |(with_reducible refine CU (dA _) ?_)
 | (with_reducible refine aI hQ ?_;exact bA))
  refine fG 3 0 (bp.ind (ι:=List Im×Nat) (fun i=>p.aZ.L.drop i.2=i.1∧rT 8 (HP p (i.1.map Im.s))=R) (fun i=>i.1.length)
   (fun i=> [(1, .ptr 0 0),(2, .ptr 1 0),(3, .gR 2),(33, .slice .shared 17 (p.aZ.L.map dP)),(34, .int .i64 (p.aZ.L.length:Int)),(35, .int .i64 (i.2:Int))]) (fun i=>⟨[bO p,[.int .i64 0, .int .i64 0],oP p p.procs],[]⟩) ?_ (p.aZ.L,0) ⟨rfl,hR⟩)
  clear hR
  rintro⟨rest,k⟩ ⟨h1,hR⟩ IH
  dsimp only at h1 hR
  cases rest with
  |nil=>
   have hD:=drop_nil h1
   simp only[List.map_nil,HP,rT]at hR
   subst hR
   repeat' (first
 |simp only[go_sem,hD,hZ,gA,gB]
 | (with_reducible refine aI hQ ?_;exact bA))
  | cons a rest=>
   obtain⟨hZ,g2,hD,g4⟩:=drop_cons h1
   have cu:k<4611686018427387904:=by omega
   have Hz:a.s∈p.pre:=by rw[← hL];exact List.mem_map_of_mem (List.mem_of_getElem? hZ)
   have xb:=fun s=>ZR (Tz (h.pre _ Hz)) (NH h a.s.proc) s
   simp only[List.map_cons,HP,Sm.q8]at hR
   rcases Bool.eq_false_or_eq_true (a.s.kind==4)with c1|c1
   ·obtain⟨f,hf⟩:=Kq (j9 _ Hz c1)
    have hmg:=fun z=>ND (p:=p) (z:=z) hf
    rcases Bool.eq_false_or_eq_true (nr a.s.name (p.mT a.s.proc) [] a.s.args)with c2|c2
    ·simp only [c1,c2,Bool.not_true,Bool.and_false,Bool.false_eq_true,if_false]at hR
     repeat' (first
 |simp only[go_sem,hD,hZ,gA,gB,c1,c2,hmg]
 |(with_reducible refine CU (xb _) ?_)
 | (with_reducible refine aI hQ ?_;exact bA))
     refine fi 3 0 ?_ ?_ (IH (rest,k+1) ⟨g2,hR⟩ (Nat.lt_succ_self _))
     ·(simp only[go_sem,hD,hZ,gA,gB,aN cu];try exact bY)
     ·(simp only[go_sem,hD,hZ,gA,gB,aN cu];try exact bY)
    ·simp only [c1,c2,Bool.not_false,Bool.and_true,if_true,rT]at hR
     subst hR
     repeat' (first
 |simp only[go_sem,hD,hZ,gA,gB,c1,c2,hmg]
 |(with_reducible refine CU (xb _) ?_)
 | (with_reducible refine aI hQ ?_;exact bA))
   ·simp only [c1,Bool.false_and,Bool.false_eq_true,if_false]at hR
    repeat' (first
 |simp only[go_sem,hD,hZ,gA,gB,c1]
 |(with_reducible refine CU (xb _) ?_)
 | (with_reducible refine aI hQ ?_;exact bA))
    refine fi 3 0 ?_ ?_ (IH (rest,k+1) ⟨g2,hR⟩ (Nat.lt_succ_self _))
    ·(simp only[go_sem,hD,hZ,gA,gB,aN cu];try exact bY)
    ·(simp only[go_sem,hD,hZ,gA,gB,aN cu];try exact bY)
def Sm.aib (p:Pg) (v:Sm):Bool:=v.nG p && apM (p.mT v.proc) v.atC v.args
def apF (p:Pg):List Sm→Option Sm
 | []=>none
 |v::l=>if v.kind==4 && !(v.aib p)then some v else apF p l
def rd0 (l:List rj):Rd:=⟨l,0,0,0,0⟩
def aAr (m:Nat) (text:aK):Option (Pg×Int×Int):=
 if(AP text).2.1 != 0 then some (pg0,(AP text).2)
 else(Rd.program m (rd0 (AP text).1)).bind fun p=>if p.2.code != 0 then some (pg0,p.2.code,p.2.MH)else(p.1.adV).bind fun q=>some (q,0,0)
def aBq (m:Nat) (text:aK):Option (Ex×Int×Int):=
 if(AP text).2.1 != 0 then some (rk,(AP text).2)
 else(Rd.whole m (rd0 (AP text).1)).bind fun x=>x.2.VJ.bind fun b=>
  if b then(x.2.bad 3).bind fun r=>if !r.good then some (rk,r.code,r.MH)else some (x.1,0,0)
  else if !x.2.good then some (rk,x.2.code,x.2.MH)else some (x.1,0,0)
def tO (n k:Int):Int:=if Int.tmod n k<0 then Int.tmod n k+k else Int.tmod n k
theorem aet (n:Int) {k:Int} (hk:1≤k):0≤tO n k∧tO n k<k:=by
 unfold tO
 have h1:=Int.tmod_lt_of_pos n (by omega:0<k)
 have h2:=Int.lt_tmod_of_pos n (by omega:0<k)
 split<;>omega
theorem ama (n:Int) {k:Int} (hk:1≤k) (cu:k<1000000) (s:St):aH Tryz.prog Bj [.int .i64 n, .int .i64 k] s (.int .i64 (tO n k)) s:=by
 refine aH.pure ?_ rfl rfl s
 have h1:=Int.tmod_lt_of_pos n (by omega:0<k)
 have h2:=Int.lt_tmod_of_pos n (by omega:0<k)
 have c1:decide (k<1)=false:=by simp;omega
 have w1:IntKind.wrap .i64 (Int.tmod n k)=Int.tmod n k:=eB (by omega) (by omega)
 have w2:IntKind.wrap .i64 (Int.tmod n k+k)=Int.tmod n k+k:=eB (by omega) (by omega)
 have k0:(k=0)=False:=by simp;omega
 unfold S0
 by_cases hm:Int.tmod n k<0
 ·have c2:decide (Int.tmod n k<0)=true:=by simp;omega
  rw[show tO n k=Int.tmod n k+k from if_pos hm]
  refine aH.go Dx rfl fun B Q hB hQ=>?_
  have⟨hD,hZ,gA,gB⟩:=bX
  repeat' (first
 |simp only[go_sem,hD,hZ,gA,gB,c1,c2,w1,w2,k0]
 |(with_reducible refine aI hQ ?_;exact bA))
 ·have c2:decide (Int.tmod n k<0)=false:=by simp;omega
  rw[show tO n k=Int.tmod n k from if_neg hm]
  refine aH.go Dx rfl fun B Q hB hQ=>?_
  have⟨hD,hZ,gA,gB⟩:=bX
  repeat' (first
 |simp only[go_sem,hD,hZ,gA,gB,c1,c2,w1,w2,k0]
 |(with_reducible refine aI hQ ?_;exact bA))
def amb (t:aK):Nat→aK
 | 0=> []
 |n+1=>amb t n++t
def two (i:Nat):aK:= [UInt8.ofNat (48+i / 10),UInt8.ofNat (48+i % 10)]
def aic (ahead:aK):Nat→aK
 | 0=> []
 |n+1=>(if n=0 then aic ahead n else aic ahead n++ [44])++(ahead++ [97]++two n)
def aid:Nat→aK
 | 0=> []
 |n+1=>aid n++([112,114,111,99,32,112]++two n++ [40,41,123,125])
def pG (k:Int):List It→List Int
 | []=> []
 |i::l=>if k==0 ||i.s.kind==k then i.s.id::pG k l else pG k l
theorem Gb (k:Int) : ∀ l,(pG k l).length≤l.length
 | []=>Nat.le_refl _
 |i::l=>by
  have:=Gb k l
  simp only[pG]
  split<;>simp<;>omega
theorem amc {p:Pg} (hs:Pc.a7 p.procs<4611686018427387000) (yT:p.all.length≤1000) (kd:Int) (s:St):aH Tryz.prog Bi [.agg (bO p), .int .i64 kd] s (.slice .shared 1 ((pG kd p.all).map cR)) s:=by
 refine aH.pure ?_ (by simp[D.bM,D.ok,iy]) (by simp only[D.ok,Tag.ok,jH];rfl) s
 have sJ:=fun s=>al3 hs s
 obtain⟨R,hR⟩ : ∃ R,pG kd p.all=R:=⟨_,rfl⟩
 rw[hR]
 have hRl:R.length≤1000:=by rw[← hR];exact Nat.le_trans (Gb kd p.all) yT
 unfold S0
 refine aH.go MS rfl fun B Q hB hQ=>?_
 have⟨hD,hZ,gA,gB⟩:=bX
 repeat' (first
 |simp only[go_sem,hD,hZ,gA,gB]
 |(with_reducible refine CU (sJ _) ?_)
 |(with_reducible refine aI hQ ?_;exact bA))
 refine bp.sq 5 1 rfl ?_
 simp only[go_sem,hD,hZ,gA,gB]
 refine fG 1 1 (bp.ind (ι:=List It×Nat×List Int×Nat) (fun i=>p.all.drop i.2.1=i.1∧i.2.2.1++pG kd i.1=R∧i.2.2.2=i.2.2.1.length) (fun i=>i.1.length)
  (fun i=> [(1, .int .i64 kd),(2, .ptr 0 0),(5, .slice (.tok 0) 1 (i.2.2.1.map cR)),(9, .slice .shared 16 (p.all.map gH)),(10, .int .i64 (p.all.length:Int)),(11, .int .i64 (i.2.1:Int))]) (fun i=>⟨[bO p],[some i.2.2.2]⟩) ?_ (p.all,0,[],0) ⟨rfl,hR,rfl⟩)
 clear hR
 rintro⟨rest,k,out,n'⟩ ⟨h1,h2,h3⟩ IH
 dsimp only at h1 h2 h3
 subst h3
 have jy:out.length≤1000:=by have:=congrArg List.length h2;rw[List.length_append]at this;omega
 cases rest with
 |nil=>
  have hD:=drop_nil h1
  simp only[pG,List.append_nil]at h2
  subst h2
  repeat' (first
 |simp only[go_sem,hD,hZ,gA,gB]
 |(with_reducible refine aI hQ ?_;exact bA))
 | cons a rest=>
  obtain⟨hZ,g2,hD,g4⟩:=drop_cons h1
  have cu:k<4611686018427387904:=by omega
  have gA:(out.length+1)*9≤bq:=by unfold bq;omega
  simp only[pG]at h2
  rcases Bool.eq_false_or_eq_true (kd==0)with c1|c1
  ·simp only [c1,Bool.true_or,if_true]at h2
   repeat' (first
 |simp only[go_sem,hD,hZ,gA,gB,c1]
 | (with_reducible refine aI hQ ?_;exact bA))
   refine fi 1 1 ?_ ?_ (IH (rest,k+1,out++ [a.s.id],out.length+1) ⟨g2,by rw[← h2];simp,by simp⟩ (Nat.lt_succ_self _))
   ·(simp only[go_sem,hD,hZ,gA,gB,aN cu,List.map_append,List.map_cons,List.map_nil,cR];try exact bY)
   ·(simp only[go_sem,hD,hZ,gA,gB,aN cu,List.map_append,List.map_cons,List.map_nil,cR];try exact bY)
  rcases Bool.eq_false_or_eq_true (a.s.kind==kd)with c2|c2
  ·simp only [c1,c2,Bool.or_true,if_true]at h2
   repeat' (first
 |simp only[go_sem,hD,hZ,gA,gB,c1,c2]
 | (with_reducible refine aI hQ ?_;exact bA))
   refine fi 1 1 ?_ ?_ (IH (rest,k+1,out++ [a.s.id],out.length+1) ⟨g2,by rw[← h2];simp,by simp⟩ (Nat.lt_succ_self _))
   ·(simp only[go_sem,hD,hZ,gA,gB,aN cu,List.map_append,List.map_cons,List.map_nil,cR];try exact bY)
   ·(simp only[go_sem,hD,hZ,gA,gB,aN cu,List.map_append,List.map_cons,List.map_nil,cR];try exact bY)
  ·simp only [c1,c2,Bool.or_false,Bool.false_eq_true,if_false]at h2
   repeat' (first
 |simp only[go_sem,hD,hZ,gA,gB,c1,c2]
 | (with_reducible refine aI hQ ?_;exact bA))
   refine fi 1 1 ?_ ?_ (IH (rest,k+1,out,_) ⟨g2,h2,rfl⟩ (Nat.lt_succ_self _))
   ·(simp only[go_sem,hD,hZ,gA,gB,aN cu];try exact bY)
   ·(simp only[go_sem,hD,hZ,gA,gB,aN cu];try exact bY)
def aBr (l:List Int) (n:Int):Int:=match l[(tO n l.length).toNat]? with|some x=>x|none=>0
def ED (id:Int):List It→Option It
 | []=>none
 |i::l=>if i.s.id==id then some i else ED id l
def BM (id:Int):List Pc→Option (It×aK)
 | []=>none
 |f::l=>match ED id f.flat with|some i=>some (i,f.name)|none=>BM id l
def it0:It:=⟨JP,0,0,false⟩
def atD (r:Option (It×aK)):D:=match r with
 |some (i,nm)=> .tuple [.agg (gH i), .str nm, .bool true]
 |none=> .tuple [.agg (gH it0), .str [], .bool false]
def Pg.EE (p:Pg) (id:Int):Sm:=match BM id p.procs with|some (i,_)=>i.s|none=>JP
def dt (t:aK) (n:Int):Int:=if n > 20000 then 20001 else if(t.length:Int)≥20000 - n then 20001 else n+1+t.length
mutual
def fQ:Ex→Int→Int
 |⟨_,_,name,kids⟩,n=>oQ kids (dt name n)
def oQ:List Ex→Int→Int
 | [],n=>n
 |x::l,n=>if n≤20000 then oQ l (fQ x n)else n
end
theorem nI {t:aK} {n:Int} (h0:0≤n):dt t n≤20001∧(n≤20000→n+1≤dt t n)∧0≤dt t n∧(dt t n≤20000→n+1+t.length=dt t n):=by
 unfold dt;split
 ·omega
 ·split<;>omega
theorem xQ : ∀ (m:Nat) (x:Ex),x.size≤m→∀ n:Int,0≤n→fQ x n≤20001∧(n≤20000→n+1≤fQ x n)∧0≤fQ x n∧(fQ x n≤20000→(x.size:Int)+1≤2*(fQ x n - n)∧x.texts):=by
 intro m
 induction m with
 |zero=>rintro⟨op,v,name,kids⟩ h;simp only[Ex.size]at h;omega
 | succ m ih=>
  rintro⟨op,v,name,kids⟩ h n h0
  simp only[Ex.size]at h
  obtain⟨t1,t2,t3,t4⟩:=nI (t:=name) h0
  have go : ∀ (l:List Ex),Ex.a7 l≤m→∀ c:Int,0≤c→c≤20001→oQ l c≤20001∧c≤oQ l c∧(oQ l c≤20000→(Ex.a7 l:Int)≤2*(oQ l c - c)∧Ex.xF l):=by
   intro l
   induction l with
   |nil=>intro _ c h0 h1;simp only[oQ,Ex.a7];exact⟨h1,Int.le_refl _,fun _=>⟨by omega,trivial⟩⟩
   | cons y l Wt=>
    intro hs c h0 h1
    simp only[Ex.a7]at hs ⊢
    simp only[oQ]
    split
    ·rename_i hc
     obtain⟨a1,a2,a3,a4⟩:=ih y (by omega) c h0
     obtain⟨b1,b2,b3⟩:=Wt (by omega) (fQ y c) a3 a1
     have:=a2 hc
     refine⟨b1,by omega,fun hw=>?_⟩
     obtain⟨c1,c2⟩:=b3 hw
     obtain⟨d1,d2⟩:=a4 (by omega)
     exact⟨by omega,d2,c2⟩
    ·exact⟨h1,Int.le_refl _,fun hw=>by omega⟩
  obtain⟨g1,g2,g3⟩:=go kids (by omega) (dt name n) t3 t1
  simp only[fQ,Ex.size]
  refine⟨g1,fun hn=>by have:=t2 hn;omega,by omega,fun hw=>?_⟩
  obtain⟨k1,k2⟩:=g3 hw
  have:=t4 (by omega)
  exact⟨by omega,by omega,k2⟩
theorem sA (t:aK) {n:Int} (h0:0≤n) (h1:n≤20001) (s:St):aH Tryz.prog iz [.str t, .int .i64 n] s (.int .i64 (dt t n)) s:=by
 refine aH.pure ?_ rfl rfl s
 unfold S0
 have w1:IntKind.wrap .i64 (20000 - n)=20000 - n:=eB (by omega) (by omega)
 have w2:IntKind.wrap .i64 (n+1)=n+1:=eB (by omega) (by omega)
 by_cases c:n > 20000
 ·have c1:decide (n > 20000)=true:=by simp;omega
  have e:dt t n=20001:=by simp[dt,c]
  rw[e]
  refine aH.go qH rfl fun B Q hB hQ=>?_
  have⟨hD,hZ,gA,gB⟩:=bX
  repeat' (first
 |simp only[go_sem,hD,hZ,gA,gB,c1,w1,w2]
 |(with_reducible refine aI hQ ?_;exact bA))
 ·have c1:decide (n > 20000)=false:=by simp;omega
  by_cases d:(t.length:Int)≥20000 - n
  ·have d1:decide ((t.length:Int)≥20000 - n)=true:=by simp;omega
   have e:dt t n=20001:=by unfold dt;rw[if_neg c,if_pos d]
   rw[e]
   refine aH.go qH rfl fun B Q hB hQ=>?_
   have⟨hD,hZ,gA,gB⟩:=bX
   repeat' (first
 |simp only[go_sem,hD,hZ,gA,gB,c1,d1,w1,w2]
 | (with_reducible refine aI hQ ?_;exact bA))
  ·have d1:decide ((t.length:Int)≥20000 - n)=false:=by simp;omega
   have e:dt t n=n+1+t.length:=by unfold dt;rw[if_neg c,if_neg d]
   have w3:IntKind.wrap .i64 (n+1+t.length)=n+1+t.length:=eB (by omega) (by omega)
   rw[e]
   refine aH.go qH rfl fun B Q hB hQ=>?_
   have⟨hD,hZ,gA,gB⟩:=bX
   repeat' (first
 |simp only[go_sem,hD,hZ,gA,gB,c1,d1,w1,w2,w3]
 |(with_reducible refine aI hQ ?_;exact bA))
theorem NK : ∀ (m:Nat) (x:Ex),x.size≤m→∀ {n:Int},0≤n→n≤20000→∀ s:St,aH Tryz.prog kX [.agg (cb x), .int .i64 n] s (.int .i64 (fQ x n)) s:=by
 intro m
 induction m with
 |zero=>rintro⟨op,v,name,kids⟩ h;simp only[Ex.size]at h;omega
 |succ m ih=>
  rintro⟨op,v,name,kids⟩ dU n h0 h1 s
  refine aH.pure ?_ (by simp[D.bM,D.ok,lx]) rfl s
  simp only[Ex.size]at dU
  have hk : ∀ y∈kids,∀ {n:Int},0≤n→n≤20000→∀ s:St,aH Tryz.prog kX [.agg (cb y), .int .i64 n] s (.int .i64 (fQ y n)) s:=fun y hy=>ih y (by have:=Ex.da hy;omega)
  have ht:=fun s=>sA name h0 (by omega) s
  obtain⟨t1,t2,t3,t4⟩:=nI (t:=name) h0
  unfold S0
  generalize h:fQ ⟨op,v,name,kids⟩ n=p
  simp only[fQ]at h
  refine aH.go Dy rfl fun B Q hB hQ=>?_
  have⟨hD,hZ,gA,gB⟩:=bX
  repeat' (first
 |simp only[go_sem,hD,hZ,gA,gB]
 |(with_reducible refine CU (ht _) ?_)
 |(with_reducible first|refine bt fun hc=>?_|refine bu fun hc=>?_|refine bx (fun hc=>?_) fun hc=>?_)<;>(try simp only[hc,bs,↓reduceIte]at h)<;>try simp only[hc]
 | (with_reducible refine aI hQ ?_;exact fS))
  refine fG 1 0 (bp.ind (ι:=List Ex×Nat×Int) (fun i=>kids.drop i.2.1=i.1∧oQ i.1 i.2.2=p∧(i.2.1:Int)≤i.2.2∧i.2.2≤20001) (fun i=>i.1.length)
   (fun i=> [(1, .int .i64 i.2.2),(2, .ptr 0 0),(5, .int .i64 (i.2.1:Int))]) (fun i=>⟨[cb ⟨op,v,name,kids⟩],[]⟩) ?_ (kids,0,dt name n) ⟨rfl,h,t3,t1⟩)
  rintro⟨rest,k,c⟩ ⟨g1,h,g3,g4⟩ IH
  dsimp only at g1 h g3 g4
  cases rest with
  |nil=>
   have hD:=drop_nil g1
   simp only[oQ]at h
   repeat' (first
 |simp only[go_sem,hD,hZ,gA,gB]
 |(with_reducible first|refine bt fun hc=>?_|refine bu fun hc=>?_|refine bx (fun hc=>?_) fun hc=>?_)<;>(try simp only[hc,bs,↓reduceIte]at h)<;>try simp only[hc]
 | (with_reducible refine aI hQ ?_;exact fS))
  | cons y rest=>
   obtain⟨hZ,g2,hD,g5⟩:=drop_cons g1
   simp only[oQ]at h
   by_cases hc:c≤20000
   ·have c1:decide (c≤20000)=true:=by simp;omega
    have hy:=fun s=>hk y (List.mem_of_getElem? hZ) (n:=c) (by omega) hc s
    obtain⟨a1,a2,a3,a4⟩:=xQ _ y (Nat.le_refl _) c (by omega)
    have:=a2 hc
    have w3:IntKind.wrap .i64 ((k:Int)+1)=((k+1:Nat):Int):=by rw[eB]<;>omega
    rw[if_pos hc]at h
    repeat' (first
 |simp only[go_sem,hD,hZ,gA,gB,c1,w3]
 |(with_reducible refine CU (hy _) ?_)
 |(with_reducible first|refine bt fun hc=>?_|refine bu fun hc=>?_|refine bx (fun hc=>?_) fun hc=>?_)<;>(try simp only[hc,bs,↓reduceIte]at h)<;>try simp only[hc]
 | (with_reducible refine aI hQ ?_;(try cases h);simp only [bh,bj,bP,bQ,go_sem,hD,hZ,gA,gB,c1,w3];try exact cO))
    refine fG 1 0 (IH (rest,k+1,fQ y c) ⟨g2,h,by dsimp only;omega,a1⟩ (Nat.lt_succ_self _))
   ·have c1:decide (c≤20000)=false:=by simp;omega
    rw[if_neg hc]at h
    repeat' (first
 |simp only[go_sem,hD,hZ,gA,gB,c1]
 |(with_reducible first|refine bt fun hc=>?_|refine bu fun hc=>?_|refine bx (fun hc=>?_) fun hc=>?_)<;>(try simp only[hc,bs,↓reduceIte]at h)<;>try simp only[hc]
 |(with_reducible refine aI hQ ?_;(try cases h);simp only[bh,bj,bP,bQ,go_sem,hD,hZ,gA,gB,c1];try exact cO))
def eI:List aK→Int→Int
 | [],n=>n
 |t::l,n=>if n≤20000 then eI l (dt t n)else n
def jD:List Ar→Int→Int
 | [],n=>n
 |a::l,n=>if n≤20000 then jD l (dt a.name (fQ a.x n))else n
def lG:List Pm→Int→Int
 | [],n=>n
 |a::l,n=>if n≤20000 then lG l (dt a.name n)else n
mutual
def tP:Sm→Int→Int
 |⟨_,_,labels,name,proc,x,_,args,aP,aM⟩,n=>gx aM (gx aP (jD args (dt proc (dt name (eI labels (fQ x n))))))
def gx:List Sm→Int→Int
 | [],n=>n
 |s::l,n=>if n≤20000 then gx l (tP s n)else n
end
theorem WC (s:Sm) (n:Int):tP s n=gx s.aM (gx s.aP (jD s.args (dt s.proc (dt s.name (eI s.labels (fQ s.x n)))))):=by cases s;simp only[tP]
def vL (f:Pc) (n:Int):Int:=gx f.body (lG f.params (eI f.fin (eI f.vars (dt f.name n))))
def oR:List Pc→Int→Int
 | [],n=>n
 |f::l,n=>if n≤20000 then oR l (vL f n)else n
def Pg.EF (p:Pg):Int:=oR p.procs (eI p.globals 0)
theorem lZ : ∀ (l:List aK) {n:Int},0≤n→n≤20001→eI l n≤20001∧n≤eI l n∧(eI l n≤20000→n+l.length≤eI l n∧∀ t∈l,t.length<4611686018427387904)
 | [],n,h0,h1=>by simp only[eI];exact⟨h1,Int.le_refl _,fun _=>⟨by simp,by simp⟩⟩
 | t::l,n,h0,h1=>by
  simp only[eI]
  split
  ·rename_i hc
   obtain⟨a1,a2,a3,a4⟩:=nI (t:=t) h0
   obtain⟨b1,b2,b3⟩:=lZ l (n:=dt t n) a3 a1
   have:=a2 hc
   refine⟨b1,by omega,fun hw=>?_⟩
   obtain⟨c1,c2⟩:=b3 hw
   have:=a4 (by omega)
   refine⟨by simp only[List.length_cons];omega,fun s m=>?_⟩
   rcases List.mem_cons.1 m with rfl|m
   ·omega
   ·exact c2 s m
  ·exact⟨h1,Int.le_refl _,fun hw=>by omega⟩
theorem BN : ∀ (l:List Pm) {n:Int},0≤n→n≤20001→lG l n≤20001∧n≤lG l n∧(lG l n≤20000→n+l.length≤lG l n∧∀ t∈l,t.name.length<4611686018427387904)
 | [],n,h0,h1=>by simp only[lG];exact⟨h1,Int.le_refl _,fun _=>⟨by simp,by simp⟩⟩
 | t::l,n,h0,h1=>by
  simp only[lG]
  split
  ·rename_i hc
   obtain⟨a1,a2,a3,a4⟩:=nI (t:=t.name) h0
   obtain⟨b1,b2,b3⟩:=BN l (n:=dt t.name n) a3 a1
   have:=a2 hc
   refine⟨b1,by omega,fun hw=>?_⟩
   obtain⟨c1,c2⟩:=b3 hw
   have:=a4 (by omega)
   refine⟨by simp only[List.length_cons];omega,fun s m=>?_⟩
   rcases List.mem_cons.1 m with rfl|m
   ·omega
   ·exact c2 s m
  ·exact⟨h1,Int.le_refl _,fun hw=>by omega⟩
theorem BO : ∀ (l:List Ar) {n:Int},0≤n→n≤20001→jD l n≤20001∧n≤jD l n∧
 (jD l n≤20000→(Ar.a7 l:Int)≤2*(jD l n - n)∧∀ a∈l,a.x.size<4611686018427387904∧a.x.texts∧a.name.length<4611686018427387904)
 | [],n,h0,h1=>by simp only[jD];exact⟨h1,Int.le_refl _,fun _=>⟨by simp[Ar.a7],by simp⟩⟩
 | a::l,n,h0,h1=>by
  simp only[jD]
  split
  ·rename_i hc
   obtain⟨a1,a2,a3,a4⟩:=xQ _ a.x (Nat.le_refl _) n h0
   obtain⟨e1,e2,e3,e4⟩:=nI (t:=a.name) a3
   obtain⟨b1,b2,b3⟩:=BO l (n:=dt a.name (fQ a.x n)) e3 e1
   have:=a2 hc
   have:fQ a.x n≤dt a.name (fQ a.x n):=by
    by_cases h:fQ a.x n≤20000
    ·have:=e2 h;omega
    ·have:dt a.name (fQ a.x n)=20001:=by unfold dt;rw [if_pos (by omega)]
     omega
   refine⟨b1,by omega,fun hw=>?_⟩
   obtain⟨c1,c2⟩:=b3 hw
   have:=e4 (by omega)
   obtain⟨d1,d2⟩:=a4 (by omega)
   refine⟨by simp only[Ar.a7];omega,fun s m=>?_⟩
   rcases List.mem_cons.1 m with rfl|m
   ·exact⟨by omega,d2,by omega⟩
   ·exact c2 s m
  ·exact⟨h1,Int.le_refl _,fun hw=>by omega⟩
theorem ml {t:aK} {n:Int} (h0:0≤n) (h1:n≤20001):n≤dt t n∧dt t n≤20001∧(dt t n≤20000→n+1≤dt t n∧t.length<4611686018427387904):=by
 obtain⟨e1,e2,e3,e4⟩:=nI (t:=t) h0
 by_cases h:n≤20000
 ·have:=e2 h
  exact⟨by omega,e1,fun hw=>⟨by omega,by have:=e4 hw;omega⟩⟩
 ·have:dt t n=20001:=by unfold dt;rw [if_pos (by omega)]
  exact⟨by omega,e1,fun hw=>by omega⟩
mutual
theorem Kr : ∀ (s:Sm) {n:Int},0≤n→n≤20000→tP s n≤20001∧n+1≤tP s n∧(tP s n≤20000→(s.size:Int)+1≤2*(tP s n - n)∧s.yI)
 |⟨id,kind,labels,name,proc,x,has,args,aP,aM⟩,n,h0,h1=>by
  obtain⟨a1,a2,a3,a4⟩:=xQ _ x (Nat.le_refl _) n h0
  have a2:=a2 h1
  obtain⟨b1,b2,b3⟩:=lZ labels a3 a1
  obtain⟨c1,c2,c3⟩:=ml (t:=name) (n:=eI labels (fQ x n)) (by omega) b1
  obtain⟨d1,d2,d3⟩:=ml (t:=proc) (n:=dt name (eI labels (fQ x n))) (by omega) c2
  obtain⟨e1,e2,e3⟩:=BO args (n:=dt proc (dt name (eI labels (fQ x n)))) (by omega) d2
  obtain⟨f1,f2,f3⟩:=tQ aP (n:=jD args (dt proc (dt name (eI labels (fQ x n))))) (by omega) e1
  obtain⟨g1,g2,g3⟩:=tQ aM (n:=gx aP (jD args (dt proc (dt name (eI labels (fQ x n)))))) (by omega) f1
  simp only[tP,Sm.size]
  refine⟨g1,by omega,fun hw=>?_⟩
  obtain⟨g4,g5⟩:=g3 hw
  obtain⟨f4,f5⟩:=f3 (by omega)
  obtain⟨e4,e5⟩:=e3 (by omega)
  obtain⟨d4,d5⟩:=d3 (by omega)
  obtain⟨c4,c5⟩:=c3 (by omega)
  obtain⟨b4,b5⟩:=b3 (by omega)
  obtain⟨a5,a6⟩:=a4 (by omega)
  have:=Ar.dQ args
  refine⟨by omega, ?_⟩
  rw[F2]
  exact⟨⟨b5,by dsimp only;omega,c5,d5,by dsimp only;omega,a6,by dsimp only;omega,e5⟩,f5,g5⟩
theorem tQ : ∀ (l:List Sm) {n:Int},0≤n→n≤20001→gx l n≤20001∧n≤gx l n∧(gx l n≤20000→(Sm.a7 l:Int)≤2*(gx l n - n)∧Sm.lA l)
 | [],n,h0,h1=>by simp only[gx];exact⟨h1,Int.le_refl _,fun _=>⟨by simp[Sm.a7],by simp only[Sm.lA]⟩⟩
 | s::l,n,h0,h1=>by
  simp only[gx]
  split
  ·rename_i hc
   obtain⟨a1,a2,a3⟩:=Kr s h0 hc
   obtain⟨b1,b2,b3⟩:=tQ l (n:=tP s n) (by omega) a1
   refine⟨b1,by omega,fun hw=>?_⟩
   obtain⟨c1,c2⟩:=b3 hw
   obtain⟨d1,d2⟩:=a3 (by omega)
   exact⟨by simp only[Sm.a7];omega,d2,c2⟩
  ·exact⟨h1,Int.le_refl _,fun hw=>by omega⟩
end
theorem Ks (f:Pc) {n:Int} (h0:0≤n) (h1:n≤20000):vL f n≤20001∧n+1≤vL f n∧(vL f n≤20000→(f.size:Int)+1≤2*(vL f n - n)∧
 (f.name.length<4611686018427387904∧(∀ t∈f.vars,t.length<4611686018427387904)∧(∀ t∈f.fin,t.length<4611686018427387904)∧∀ a∈f.params,a.name.length<4611686018427387904)∧Sm.lA f.body):=by
 obtain⟨c1,c2,c3⟩:=ml (t:=f.name) h0 (by omega:n≤20001)
 have c4:=(nI (t:=f.name) h0).2.1 h1
 obtain⟨d1,d2,d3⟩:=lZ f.vars (n:=dt f.name n) (by omega) c2
 obtain⟨e1,e2,e3⟩:=lZ f.fin (n:=eI f.vars (dt f.name n)) (by omega) d1
 obtain⟨g1,g2,g3⟩:=BN f.params (n:=eI f.fin (eI f.vars (dt f.name n))) (by omega) e1
 obtain⟨k1,k2,k3⟩:=tQ f.body (n:=lG f.params (eI f.fin (eI f.vars (dt f.name n)))) (by omega) g1
 unfold vL Pc.size
 refine⟨k1,by omega,fun hw=>?_⟩
 obtain⟨k4,k5⟩:=k3 hw
 obtain⟨g4,g5⟩:=g3 (by omega)
 obtain⟨e4,e5⟩:=e3 (by omega)
 obtain⟨d4,d5⟩:=d3 (by omega)
 obtain⟨_,c5⟩:=c3 (by omega)
 exact⟨by omega,⟨c5,d5,e5,g5⟩,k5⟩
theorem HQ : ∀ (l:List Pc) {n:Int},0≤n→n≤20001→oR l n≤20001∧n≤oR l n∧(oR l n≤20000→(Pc.a7 l:Int)≤2*(oR l n - n)∧∀ f∈l,
 (f.name.length<4611686018427387904∧(∀ t∈f.vars,t.length<4611686018427387904)∧(∀ t∈f.fin,t.length<4611686018427387904)∧∀ a∈f.params,a.name.length<4611686018427387904)∧Sm.lA f.body)
 | [],n,h0,h1=>by simp only[oR];exact⟨h1,Int.le_refl _,fun _=>⟨by simp[Pc.a7],by simp⟩⟩
 | f::l,n,h0,h1=>by
  simp only[oR]
  split
  ·rename_i hc
   obtain⟨a1,a2,a3⟩:=Ks f h0 hc
   obtain⟨b1,b2,b3⟩:=HQ l (n:=vL f n) (by omega) a1
   refine⟨b1,by omega,fun hw=>?_⟩
   obtain⟨c1,c2⟩:=b3 hw
   obtain⟨d1,d2⟩:=a3 (by omega)
   refine⟨by simp only[Pc.a7];omega,fun s m=>?_⟩
   rcases List.mem_cons.1 m with rfl|m
   ·exact d2
   ·exact c2 s m
  ·exact⟨h1,Int.le_refl _,fun hw=>by omega⟩
theorem TA {p:Pg} (h:p.EF≤20000):p.size≤40001∧p.Ls:=by
 unfold Pg.EF at h
 obtain⟨a1,a2,a3⟩:=lZ p.globals (n:=0) (by omega) (by omega)
 obtain⟨b1,b2,b3⟩:=HQ p.procs (n:=eI p.globals 0) (by omega) a1
 obtain⟨c1,c2⟩:=b3 h
 obtain⟨d1,d2⟩:=a3 (by omega)
 have:p.size≤40001:=by unfold Pg.size;omega
 exact⟨this,by omega,d2,fun f m=>(c2 f m).1,fun f m=>(c2 f m).2⟩
theorem yZ {l:List aK} {n:Int} (h0:0≤n) (h1:n≤20001) (s:St):aH Tryz.prog kF [.slice .shared 1 (l.map encStr), .int .i64 n] s (.int .i64 (eI l n)) s:=by
 refine aH.pure ?_ (by simp[D.bM,D.ok,fI,Tag.ok]) rfl s
 unfold S0
 generalize h:eI l n=p
 refine aH.go CA rfl fun B Q hB hQ=>?_
 have⟨hD,hZ,gA,gB⟩:=bX
 repeat' (first
 |simp only[go_sem,hD,hZ,gA,gB]
 |(with_reducible refine aI hQ ?_;exact bA))
 refine fG 0 0 (bp.ind (ι:=List aK×Nat×Int) (fun i=>l.drop i.2.1=i.1∧eI i.1 i.2.2=p∧(i.2.1:Int)≤i.2.2∧i.2.2≤20001) (fun i=>i.1.length)
  (fun i=> [(0, .slice .shared 1 (l.map encStr)),(1, .int .i64 i.2.2),(5, .int .i64 (i.2.1:Int))]) (fun i=>⟨[],[]⟩) ?_ (l,0,n) ⟨rfl,h,h0,h1⟩)
 rintro⟨rest,k,c⟩ ⟨g1,h,g3,g4⟩ IH
 dsimp only at g1 h g3 g4
 cases rest with
 |nil=>
  have hD:=drop_nil g1
  simp only[eI]at h
  subst h
  repeat' (first
 |simp only[go_sem,hD,hZ,gA,gB]
 |(with_reducible refine aI hQ ?_;exact bA))
 | cons y rest=>
  obtain⟨hZ,g2,hD,g5⟩:=drop_cons g1
  simp only[eI]at h
  by_cases hc:c≤20000
  ·have c1:decide (c≤20000)=true:=by simp;omega
   have hy:=fun s=>sA y (n:=c) (by omega) g4 s
   obtain⟨a1,a2,a3,a4⟩:=nI (t:=y) (n:=c) (by omega)
   have:=a2 hc
   have w3:IntKind.wrap .i64 ((k:Int)+1)=((k+1:Nat):Int):=by rw[eB]<;>omega
   rw[if_pos hc]at h
   repeat' (first
 |simp only[go_sem,hD,hZ,gA,gB,c1,w3]
 |(with_reducible refine CU (hy _) ?_)
 | (with_reducible refine aI hQ ?_;exact bA))
   refine fG 0 0 (IH (rest,k+1,dt y c) ⟨g2,h,by dsimp only;omega,a1⟩ (Nat.lt_succ_self _))
  ·have c1:decide (c≤20000)=false:=by simp;omega
   rw[if_neg hc]at h
   subst h
   repeat' (first
 |simp only[go_sem,hD,hZ,gA,gB,c1]
 |(with_reducible refine aI hQ ?_;exact bA))
theorem WD : ∀ (m:Nat) (l:List Sm),Sm.a7 l≤m→∀ {n:Int},0≤n→n≤20001→∀ s:St,aH Tryz.prog lN [.slice .shared 13 (l.map bd), .int .i64 n] s (.int .i64 (gx l n)) s:=by
 intro m
 induction m with
 | zero=>
  intro l h n h0 h1 s
  cases l with
  |nil=>
   have z:decide ((0:Int)<0)=false:=rfl
   refine aH.pure ?_ (by simp[D.bM,D.ok,D.jb,Tag.ok]) rfl s
   unfold S0
   simp only[gx]
   refine aH.go uu rfl fun B Q hB hQ=>?_
   have⟨hD,hZ,gA,gB⟩:=bX
   repeat' (first
 |simp only[go_sem,hD,hZ,gA,gB,z]
 |(with_reducible refine bp.kO ?_)
 |(with_reducible refine aI hQ ?_;exact bA))
  |cons s l=>simp only[Sm.a7]at h;omega
 |succ m ih=>
  intro l h n h0 h1 s
  refine aH.pure ?_ (by simp[D.bM,D.ok,nF,Tag.ok]) rfl s
  unfold S0
  generalize hp:gx l n=p
  refine aH.go uu rfl fun B Q hB hQ=>?_
  have⟨hD,hZ,gA,gB⟩:=bX
  repeat' (first
 |simp only[go_sem,hD,hZ,gA,gB]
 | (with_reducible refine aI hQ ?_;exact bA))
  refine fG 0 0 (bp.ind (ι:=List Sm×Nat×Int) (fun i=>l.drop i.2.1=i.1∧gx i.1 i.2.2=p∧(i.2.1:Int)≤i.2.2∧i.2.2≤20001) (fun i=>i.1.length)
   (fun i=> [(0, .slice .shared 13 (l.map bd)),(1, .int .i64 i.2.2),(5, .int .i64 (i.2.1:Int))]) (fun i=>⟨[],[]⟩) ?_ (l,0,n) ⟨rfl,hp,h0,h1⟩)
  rintro⟨rest,k,c⟩ ⟨g1,hp,g3,g4⟩ IH
  dsimp only at g1 hp g3 g4
  cases rest with
  |nil=>
   have hD:=drop_nil g1
   simp only[gx]at hp
   subst hp
   repeat' (first
 |simp only[go_sem,hD,hZ,gA,gB]
 | (with_reducible refine aI hQ ?_;exact bA))
  | cons y rest=>
   obtain⟨hZ,g2,hD,g5⟩:=drop_cons g1
   simp only[gx]at hp
   by_cases hc:c≤20000
   ·have c1:decide (c≤20000)=true:=by simp;omega
    have iM:=List.mem_of_getElem? hZ
    have dU:=Sm.da iM
    have XN:s.al.length≤s.al.length∧Sm.a7 y.aP<y.size∧Sm.a7 y.aM<y.size:=by cases y;simp only[Sm.size];omega
    have w3:IntKind.wrap .i64 ((k:Int)+1)=((k+1:Nat):Int):=by rw[eB]<;>omega
    rw[if_pos hc]at hp
    obtain⟨a1,a2,a3,a4⟩:=xQ _ y.x (Nat.le_refl _) c (by omega)
    have a2:=a2 hc
    obtain⟨b1,b2,b3⟩:=lZ y.labels a3 a1
    obtain⟨HR,c2,c3⟩:=ml (t:=y.name) (n:=eI y.labels (fQ y.x c)) (by omega) b1
    obtain⟨d1,d2,d3⟩:=ml (t:=y.proc) (n:=dt y.name (eI y.labels (fQ y.x c))) (by omega) c2
    have eE:=fun s=>NK _ y.x (Nat.le_refl _) (n:=c) (by omega) hc s
    have eL:=fun s=>yZ (l:=y.labels) (n:=fQ y.x c) (by omega) a1 s
    have eN:=fun s=>sA y.name (n:=eI y.labels (fQ y.x c)) (by omega) b1 s
    have eP:=fun s=>sA y.proc (n:=dt y.name (eI y.labels (fQ y.x c))) (by omega) c2 s
    obtain⟨r1,r2,r3⟩:=Kr y (n:=c) (by omega) hc
    rw[WC]at hp r1 r2
    generalize hC:dt y.proc (dt y.name (eI y.labels (fQ y.x c)))=C at *
    obtain⟨s1,s2,s3⟩:=BO y.args (n:=C) (by omega) d2
    obtain⟨t1,t2,t3⟩:=tQ y.aP (n:=jD y.args C) (by omega) s1
    have eT:=fun s=>ih y.aP (by omega) (n:=jD y.args C) (by omega) s1 s
    have eS:=fun s=>ih y.aM (by omega) (n:=gx y.aP (jD y.args C)) (by omega) t1 s
    generalize hW:jD y.args C=W at *
    repeat' (first
 |simp only[go_sem,hD,hZ,gA,gB,c1,w3]
 |(with_reducible refine CU (eE _) ?_)
 |(with_reducible refine CU (eL _) ?_)
 |(with_reducible refine CU (eN _) ?_)
 |(with_reducible refine CU (eP _) ?_)
 | (with_reducible refine aI hQ ?_;exact bA))
    refine fG 1 0 (bp.ind (ι:=List Ar×Nat×Int) (fun i=>y.args.drop i.2.1=i.1∧jD i.1 i.2.2=W∧(i.2.1:Int)≤i.2.2∧i.2.2≤20001) (fun i=>i.1.length)
     (fun i=> [(0, .slice .shared 13 (l.map bd)),(1, .int .i64 i.2.2),(5, .int .i64 (k:Int)),(6, .ptr 0 0),(7, .int .i64 (i.2.1:Int))]) (fun i=>⟨[bd y],[]⟩) ?_ (y.args,0,C) ⟨rfl,hW,by dsimp only;omega,d2⟩)
    rintro⟨ars,j,e⟩ ⟨k1,hw,k3,k4⟩ Hs
    dsimp only at k1 hw k3 k4
    cases ars with
    |nil=>
     have hD:=drop_nil k1
     simp only[jD]at hw
     subst hw
     repeat' (first
 |simp only[go_sem,hD,hZ,gA,gB,w3]
 |(with_reducible refine CU (eT _) ?_)
 |(with_reducible refine CU (eS _) ?_)
 | (with_reducible refine aI hQ ?_;exact bA))
     refine fG 0 0 (IH (rest,k+1,gx y.aM (gx y.aP e)) ⟨g2,hp,by dsimp only;omega,r1⟩ (Nat.lt_succ_self _))
    | cons a ars=>
     obtain⟨hZ,k2,hD,k5⟩:=drop_cons k1
     simp only[jD]at hw
     by_cases he:e≤20000
     ·have e1:decide (e≤20000)=true:=by simp;omega
      have w4:IntKind.wrap .i64 ((j:Int)+1)=((j+1:Nat):Int):=by rw[eB]<;>omega
      rw[if_pos he]at hw
      obtain⟨u1,u2,u3,u4⟩:=xQ _ a.x (Nat.le_refl _) e (by omega)
      have u2:=u2 he
      obtain⟨v1,v2,v3⟩:=ml (t:=a.name) (n:=fQ a.x e) u3 u1
      have eX:=fun s=>NK _ a.x (Nat.le_refl _) (n:=e) (by omega) he s
      have eM:=fun s=>sA a.name (n:=fQ a.x e) u3 u1 s
      repeat' (first
 |simp only[go_sem,hD,hZ,gA,gB,e1,w4]
 |(with_reducible refine CU (eX _) ?_)
 |(with_reducible refine CU (eM _) ?_)
 |(with_reducible refine aI hQ ?_;exact bA))
      refine fG 1 0 (Hs (ars,j+1,dt a.name (fQ a.x e)) ⟨k2,hw,by dsimp only;omega,v2⟩ (Nat.lt_succ_self _))
     ·have e1:decide (e≤20000)=false:=by simp;omega
      rw[if_neg he]at hw
      subst hw
      repeat' (first
 |simp only[go_sem,hD,hZ,gA,gB,e1,w3]
 |(with_reducible refine CU (eT _) ?_)
 |(with_reducible refine CU (eS _) ?_)
 | (with_reducible refine aI hQ ?_;exact bA))
      refine fG 0 0 (IH (rest,k+1,gx y.aM (gx y.aP e)) ⟨g2,hp,by dsimp only;omega,r1⟩ (Nat.lt_succ_self _))
   ·have c1:decide (c≤20000)=false:=by simp;omega
    rw[if_neg hc]at hp
    subst hp
    repeat' (first
 |simp only[go_sem,hD,hZ,gA,gB,c1]
 |(with_reducible refine aI hQ ?_;exact bA))
theorem aih (p:Pg) (s:St):aH Tryz.prog zF [.agg (bO p)] s (.bool (decide (p.EF≤20000))) s:=by
 refine aH.pure ?_ (by simp only[D.bM,D.ok,iy];rfl) rfl s
 unfold S0
 generalize hp:p.EF=W
 unfold Pg.EF at hp
 obtain⟨a1,a2,a3⟩:=lZ p.globals (n:=0) (by omega) (by omega)
 have eG:=fun s=>yZ (l:=p.globals) (n:=0) (by omega) (by omega) s
 refine aH.go KS rfl fun B Q hB hQ=>?_
 have⟨hD,hZ,gA,gB⟩:=bX
 repeat' (first
 |simp only[go_sem,hD,hZ,gA,gB]
 |(with_reducible refine CU (eG _) ?_)
 |(with_reducible refine aI hQ ?_;exact bA))
 refine fG 1 0 (bp.ind (ι:=List Pc×Nat×Int) (fun i=>p.procs.drop i.2.1=i.1∧oR i.1 i.2.2=W∧(i.2.1:Int)≤i.2.2∧i.2.2≤20001) (fun i=>i.1.length)
  (fun i=> [(1, .ptr 0 0),(3, .int .i64 i.2.2),(4, .int .i64 (i.2.1:Int))]) (fun i=>⟨[bO p],[]⟩) ?_ (p.procs,0,eI p.globals 0) ⟨rfl,hp,a2,a1⟩)
 rintro⟨rest,k,c⟩ ⟨g1,hp,g3,g4⟩ IH
 dsimp only at g1 hp g3 g4
 cases rest with
 |nil=>
  have hD:=drop_nil g1
  simp only[oR]at hp
  subst hp
  repeat' (first
 |simp only[go_sem,hD,hZ,gA,gB]
 |(with_reducible refine aI hQ ?_;exact bA))
 | cons f rest=>
  obtain⟨hZ,g2,hD,g5⟩:=drop_cons g1
  simp only[oR]at hp
  by_cases hc:c≤20000
  ·have c1:decide (c≤20000)=true:=by simp;omega
   have w3:IntKind.wrap .i64 ((k:Int)+1)=((k+1:Nat):Int):=by rw[eB]<;>omega
   rw[if_pos hc]at hp
   obtain⟨r1,r2,r3⟩:=Ks f (n:=c) (by omega) hc
   unfold vL at hp r1 r2
   obtain⟨HR,c2,c3⟩:=ml (t:=f.name) (n:=c) (by omega) g4
   obtain⟨d1,d2,d3⟩:=lZ f.vars (n:=dt f.name c) (by omega) c2
   obtain⟨e1,e2,e3⟩:=lZ f.fin (n:=eI f.vars (dt f.name c)) (by omega) d1
   have eN:=fun s=>sA f.name (n:=c) (by omega) g4 s
   have eV:=fun s=>yZ (l:=f.vars) (n:=dt f.name c) (by omega) c2 s
   have eF:=fun s=>yZ (l:=f.fin) (n:=eI f.vars (dt f.name c)) (by omega) d1 s
   generalize hC:eI f.fin (eI f.vars (dt f.name c))=C at *
   obtain⟨s1,s2,s3⟩:=BN f.params (n:=C) (by omega) e1
   have eT:=fun s=>WD _ f.body (Nat.le_refl _) (n:=lG f.params C) (by omega) s1 s
   generalize hM:lG f.params C=M at *
   repeat' (first
 |simp only[go_sem,hD,hZ,gA,gB,c1,w3]
 |(with_reducible refine CU (eN _) ?_)
 |(with_reducible refine CU (eV _) ?_)
 |(with_reducible refine CU (eF _) ?_)
 | (with_reducible refine aI hQ ?_;exact bA))
   refine fG 2 0 (bp.ind (ι:=List Pm×Nat×Int) (fun i=>f.params.drop i.2.1=i.1∧lG i.1 i.2.2=M∧(i.2.1:Int)≤i.2.2∧i.2.2≤20001) (fun i=>i.1.length)
    (fun i=> [(1, .ptr 0 0),(3, .int .i64 i.2.2),(4, .int .i64 (k:Int)),(5, .ptr 1 0),(6, .int .i64 (i.2.1:Int))]) (fun i=>⟨[bO p,bN f],[]⟩) ?_ (f.params,0,C) ⟨rfl,hM,by dsimp only;omega,e1⟩)
   rintro⟨ms,j,e⟩ ⟨k1,hw,k3,k4⟩ Hs
   dsimp only at k1 hw k3 k4
   cases ms with
   |nil=>
    have hD:=drop_nil k1
    simp only[lG]at hw
    subst hw
    repeat' (first
 |simp only[go_sem,hD,hZ,gA,gB,w3]
 |(with_reducible refine CU (eT _) ?_)
 | (with_reducible refine aI hQ ?_;exact bA))
    refine fG 1 0 (IH (rest,k+1,gx f.body e) ⟨g2,hp,by dsimp only;omega,r1⟩ (Nat.lt_succ_self _))
   | cons a ms=>
    obtain⟨hZ,k2,hD,k5⟩:=drop_cons k1
    simp only[lG]at hw
    by_cases he:e≤20000
    ·have e1:decide (e≤20000)=true:=by simp;omega
     have w4:IntKind.wrap .i64 ((j:Int)+1)=((j+1:Nat):Int):=by rw[eB]<;>omega
     rw[if_pos he]at hw
     obtain⟨v1,v2,v3⟩:=ml (t:=a.name) (n:=e) (by omega) k4
     have v4:=(nI (t:=a.name) (n:=e) (by omega)).2.1 he
     have eM:=fun s=>sA a.name (n:=e) (by omega) k4 s
     repeat' (first
 |simp only[go_sem,hD,hZ,gA,gB,e1,w4]
 |(with_reducible refine CU (eM _) ?_)
 | (with_reducible refine aI hQ ?_;exact bA))
     refine fG 2 0 (Hs (ms,j+1,dt a.name e) ⟨k2,hw,by dsimp only;omega,v2⟩ (Nat.lt_succ_self _))
    ·have e1:decide (e≤20000)=false:=by simp;omega
     rw[if_neg he]at hw
     subst hw
     repeat' (first
 |simp only[go_sem,hD,hZ,gA,gB,e1,w3]
 |(with_reducible refine CU (eT _) ?_)
 |(with_reducible first|refine bt fun hc=>?_|refine bu fun hc=>?_|refine bx (fun hc=>?_) fun hc=>?_)<;>(try simp only[hc,bs,↓reduceIte]at h)<;>try simp only[hc]
 | (with_reducible refine aI hQ ?_;simp only [bh,bj,bP,bQ,go_sem,hD,hZ,gA,gB,e1,w3];try exact cO))
     refine fG 1 0 (IH (rest,k+1,gx f.body e) ⟨g2,hp,by dsimp only;omega,r1⟩ (Nat.lt_succ_self _))
  ·have c1:decide (c≤20000)=false:=by simp;omega
   rw[if_neg hc]at hp
   subst hp
   repeat' (first
 |simp only[go_sem,hD,hZ,gA,gB,c1]
 |(with_reducible first|refine bt fun hc=>?_|refine bu fun hc=>?_|refine bx (fun hc=>?_) fun hc=>?_)<;>(try simp only[hc,bs,↓reduceIte]at h)<;>try simp only[hc]
 |(with_reducible refine aI hQ ?_;simp only[bh,bj,bP,bQ,go_sem,hD,hZ,gA,gB,c1];try exact cO))
def aii:List aK→List aK→Bool
 | [],_=>true
 |_::_,[]=>true
 |x::l,y::l'=>if !(x==y)then false else aii l l'
def eqT (l l':List aK):Bool:=if(l.length:Int) != (l'.length:Int)then false else aii l l'
def Ar.rC:List Ar→List Ar→Bool
 | [],_=>true
 |_::_,[]=>true
 |a::l,b::l'=>if !(a.ref==b.ref) || !(a.name==b.name) || !(Ex.beq a.x b.x)then false else Ar.rC l l'
mutual
def Sm.beq:Sm→Sm→Bool
 |⟨id,kind,labels,name,proc,x,has,args,aP,aM⟩,⟨id',amd,aeu,S3,wS,x',atI,GX,aij,aik⟩=>
  if id != id' ||kind != amd || !(name==S3) || !(proc==wS) || !(has==atI) || !(eqT labels aeu) || !(Ex.beq x x') ||(args.length:Int) != (GX.length:Int)then false
  else if !(Ar.rC args GX)then false
  else if(if(aP.length:Int) != (aij.length:Int)then false else Sm.rC aP aij)then(if(aM.length:Int) != (aik.length:Int)then false else Sm.rC aM aik)else false
def Sm.rC:List Sm→List Sm→Bool
 | [],_=>true
 |_::_,[]=>true
 |s::l,t::l'=>if !(Sm.beq s t)then false else Sm.rC l l'
end
def Sm.atJ (l l':List Sm):Bool:=if(l.length:Int) != (l'.length:Int)then false else Sm.rC l l'
def Pm.rC:List Pm→List Pm→Bool
 | [],_=>true
 |_::_,[]=>true
 |a::l,b::l'=>if !((a.name==b.name) && (a.ref==b.ref))then false else Pm.rC l l'
def Pc.rC:List Pc→List Pc→Bool
 | [],_=>true
 |_::_,[]=>true
 |f::l,g::l'=>
  if !(f.name==g.name) ||(f.params.length:Int) != (g.params.length:Int) || !(eqT f.vars g.vars) || !(eqT f.fin g.fin) || !(Sm.atJ f.body g.body)then false
  else if !(Pm.rC f.params g.params)then false else Pc.rC l l'
def Pg.beq (p q:Pg):Bool:=if !(eqT p.globals q.globals) ||(p.procs.length:Int) != (q.procs.length:Int)then false else Pc.rC p.procs q.procs
def EG (n:Int):Ex:=⟨1,n,[],[]⟩
def tR (s:aK):Ex:=⟨2,0,s,[]⟩
def HS (op:Int) (a b:Ex):Ex:=⟨op,0,[],[a,b]⟩
theorem ame (n:Int) (s:St):aH Tryz.prog td [.int .i64 n] s (.agg (cb (EG n))) s:=by
 refine aH.pure ?_ rfl (by simp[D.ok,lx]) s
 unfold S0
 refine aH.go MW rfl fun B Q hB hQ=>?_
 have⟨hD,hZ,gA,gB⟩:=bX
 repeat' (first
 |simp only[go_sem,hD,hZ,gA,gB,EG]
 |(with_reducible first|refine bt fun hc=>?_|refine bu fun hc=>?_|refine bx (fun hc=>?_) fun hc=>?_)<;>(try simp only[hc,bs,↓reduceIte]at h)<;>try simp only[hc]
 |(with_reducible refine aI hQ ?_;simp only[bh,bj,bP,bQ,go_sem,hD,hZ,gA,gB,EG];try exact cO))
theorem TB (t:aK) (s:St):aH Tryz.prog l7 [.str t] s (.agg (cb (tR t))) s:=by
 refine aH.pure ?_ rfl (by simp[D.ok,lx]) s
 unfold S0
 refine aH.go KW rfl fun B Q hB hQ=>?_
 have⟨hD,hZ,gA,gB⟩:=bX
 repeat' (first
 |simp only[go_sem,hD,hZ,gA,gB,tR]
 |(with_reducible first|refine bt fun hc=>?_|refine bu fun hc=>?_|refine bx (fun hc=>?_) fun hc=>?_)<;>(try simp only[hc,bs,↓reduceIte]at h)<;>try simp only[hc]
 |(with_reducible refine aI hQ ?_;simp only[bh,bj,bP,bQ,go_sem,hD,hZ,gA,gB,tR];try exact cO))
theorem WE (op:Int) (a b:Ex) (s:St):aH Tryz.prog wM [.int .i64 op, .agg (cb a), .agg (cb b)] s (.agg (cb (HS op a b))) s:=by
 refine aH.pure ?_ (by simp[D.bM,D.ok,lx]) (by simp[D.ok,lx]) s
 unfold S0
 refine aH.go MX rfl fun B Q hB hQ=>?_
 have⟨hD,hZ,gA,gB⟩:=bX
 repeat' (first
 |simp only[go_sem,hD,hZ,gA,gB,HS]
 |(with_reducible first|refine bt fun hc=>?_|refine bu fun hc=>?_|refine bx (fun hc=>?_) fun hc=>?_)<;>(try simp only[hc,bs,↓reduceIte]at h)<;>try simp only[hc]
 |(with_reducible refine aI hQ ?_;simp only[bh,bj,bP,bQ,go_sem,hD,hZ,gA,gB,HS];try exact cO))
def source:aK:= [103,108,111,98,97,108,32,103,59,10,112,114,111,99,32,109,97,105,110,40,41,32,123,10,32,118,97,114,32,118,59,10,32,118,32,61,32,50,59,10,32,103,32,61,32,112,40,51,44,32,114,101,102,32,118,41,59,10,32,112,114,105,110,116,32,118,59,10,32,112,114,105,110,116,32,103,59,10,125,10,112,114,111,99,32,112,40,120,44,32,114,101,102,32,121,41,32,123,10,32,121,32,61,32,121,32,43,32,120,59,10,32,105,102,32,40,121,32,62,32,57,41,32,123,10,32,32,103,111,116,111,32,101,59,10,32,125,10,32,114,101,116,117,114,110,32,121,59,10,101,58,32,125,10]
def tT:Pg:=⟨[[103]],[
 ⟨[109,97,105,110],[],[[118]],[
  ⟨1,1,[],[118],[],EG 2,false,[],[],[]⟩,
  ⟨2,4,[],[103],[112],rk,false,[⟨false,[],EG 3⟩,⟨true,[118],rk⟩],[],[]⟩,
  ⟨3,3,[],[],[],tR [118],false,[],[],[]⟩,
  ⟨4,3,[],[],[],tR [103],false,[],[],[]⟩],[]⟩,
 ⟨[112],[⟨[120],false⟩,⟨[121],true⟩],[],[
  ⟨5,1,[],[121],[],HS 8 (tR [121]) (tR [120]),false,[],[],[]⟩,
  ⟨6,5,[],[],[],HS 12 (tR [121]) (EG 9),false,[],[⟨7,10,[],[101],[],rk,false,[],[],[]⟩],[]⟩,
  ⟨8,9,[],[],[],tR [121],true,[],[],[]⟩],[[101]]⟩]⟩
theorem ail (s:St):aH Tryz.prog zH [] s (.agg (bO tT)) s:=by
 refine aH.pure ?_ rfl (by simp[D.ok,iy]) s
 unfold S0
 refine aH.go KV rfl fun B Q hB hQ=>?_
 have⟨hD,hZ,gA,gB⟩:=bX
 repeat' (first
 |simp only[go_sem,hD,hZ,gA,gB,tT]
 |(with_reducible refine CU (ame _ _) ?_)
 |(with_reducible refine CU (TB _ _) ?_)
 |(with_reducible refine CU (WE _ _ _ _) ?_)
 |(with_reducible refine aI hQ ?_;simp only[bh,bj,bP,bQ,go_sem,hD,hZ,gA,gB];repeat' (first|exact Ok.out|with_reducible refine jG ?_ ?_|(simp;done))))
 repeat' (first|exact Ok.out|with_reducible refine Wk.agg ?_|with_reducible refine Wk.rows ?_|with_reducible refine Wk.slice ?_|with_reducible refine il.cons ?_ ?_|with_reducible refine kh.cons ?_ ?_)
def Pg.aAw (p:Pg) (n:Int):aK:=match p.procs[(tO n p.procs.length).toNat]? with|some f=>f.name|none=> []
theorem HT {id:Int} : ∀ {l:List It},ED id l=none→∀ i∈l,i.s.id≠id
 | a::l,h,i,m=>by
  simp only[ED]at h
  split at h
  ·cases h
  ·rename_i c
   rcases List.mem_cons.1 m with rfl|m
   ·simpa using c
   ·exact HT h i m
theorem HU {id:Int} {i:It} : ∀ {l:List It},ED id l=some i→i∈l∧i.s.id=id
 | a::l,h=>by
  simp only[ED]at h
  split at h
  ·rename_i c
   cases h
   exact⟨List.mem_cons_self ..,eq_of_beq c⟩
  ·obtain⟨h1,h2⟩:=HU h
   exact⟨List.mem_cons_of_mem _ h1,h2⟩
theorem HV {id:Int} {r:It×aK} : ∀ {l:List Pc},BM id l=some r→∃ f∈l,r.1∈f.flat∧r.1.s.id=id∧r.2=f.name
 | f::l,h=>by
  simp only[BM]at h
  split at h
  ·rename_i i e
   cases h
   obtain⟨h1,h2⟩:=HU e
   exact⟨f,List.mem_cons_self ..,h1,h2,rfl⟩
  ·obtain⟨g,h1,h2⟩:=HV h
   exact⟨g,List.mem_cons_of_mem _ h1,h2⟩
theorem HW {id:Int} : ∀ {l:List Pc},BM id l=none→∀ f∈l,∀ i∈f.flat,i.s.id≠id
 | f::l,h,g,m,i,hi=>by
  simp only[BM]at h
  split at h
  ·cases h
  ·rename_i e
   rcases List.mem_cons.1 m with rfl|m
   ·exact HT e i hi
   ·exact HW h g m i hi
theorem ZS {p:Pg} (hb:p.may=true) {id:Int} (h : ∃ v∈p.pre,v.id=id):p.EE id∈p.pre∧(p.EE id).id=id:=by
 obtain⟨v,hv,Ww⟩:=h
 have iL:=(Bz hb).1
 unfold Pg.EE
 cases e:BM id p.procs with
 |some r=>
  obtain⟨f,h1,h2,h3,_⟩:=HV e
  refine⟨?_,h3⟩
  simp only[Pg.pre,List.mem_flatten,List.mem_map]
  exact⟨_,⟨f,h1,rfl⟩,by rw[← iL f h1];exact List.mem_map_of_mem h2⟩
 |none=>
  simp only[Pg.pre,List.mem_flatten,List.mem_map]at hv
  obtain⟨l,⟨f,hf,rfl⟩,m⟩:=hv
  rw[← iL f hf,List.mem_map]at m
  obtain⟨i,hi,rfl⟩:=m
  exact absurd Ww (HW e f hf i hi)
theorem ZT {p:Pg} (h:(p.arity.1==0)=true) (h2:(p.alias.1==0)=true) : ∀ v∈p.pre,(v.kind==4)=true→v.q8 p=true:=by
 unfold Pg.alias at h2
 rw[if_pos h]at h2
 intro v hv hk
 have : ∀ l:List Sm,((rT 8 (HP p l)).1==0)=true→∀ v∈l,(v.kind==4)=true→v.q8 p=true:=by
  intro l
  induction l with
  |nil=>intro _ v m;cases m
  | cons a l ih=>
   intro h v m hk
   simp only[HP]at h
   split at h
   ·cases h
   ·rename_i c
    rcases List.mem_cons.1 m with rfl|m
    ·simpa[hk]using c
    ·exact ih h v m hk
 exact this _ h2 v hv hk
theorem NL {p:Pg} : ∀ {l:List Sm},(∀ v∈l,(v.kind==4)=true→v.q8 p=true)→HP p l=none
 | [],_=>rfl
 |v::l,h=>by
  simp only[HP]
  rw[if_neg,NL fun w m=>h w (List.mem_cons_of_mem _ m)]
  intro c
  simp only[Bool.and_eq_true,Bool.not_eq_true']at c
  rw[h v (List.mem_cons_self ..) c.1]at c
  exact absurd c.2 (by simp)
section
variable {a b:aK}
end
section
variable {a b:aK} (ha:isName a=true) (hb:isName b=true)
include ha hb
end
def Pg.check (p:Pg):Int×Int:=if p.scope.1==0 then(if p.arity.1==0 then(if p.jump.1==0 then p.alias else p.jump)else p.arity)else p.scope
end Go.Abs
namespace Go.Abs
mutual
def Sm.gd (g:Sm→Sm):Sm→Sm
 |⟨id,kind,labels,name,proc,x,has,args,aP,aM⟩=> {g ⟨id,kind,labels,name,proc,x,has,args,aP,aM⟩with aP:=Sm.kA g aP,aM:=Sm.kA g aM}
def Sm.kA (g:Sm→Sm):List Sm→List Sm
 | []=> []
 |s::l=>s.gd g::Sm.kA g l
end
def It.gd (g:Sm→Sm) (i:It):It:= {i with s:=i.s.gd g}
def Pc.gd (g:Sm→Sm) (f:Pc):Pc:= {f with body:=Sm.kA g f.body}
def Pg.gd (g:Sm→Sm) (p:Pg):Pg:= {p with procs:=p.procs.map (Pc.gd g)}
theorem Qj (g:Sm→Sm) (s:Sm):s.gd g = {g s with aP:=Sm.kA g s.aP,aM:=Sm.kA g s.aM}:=by cases s;rfl
def fJ (t:Sm) (v:Sm):Sm:=if v.id==t.id then t else v
theorem NM {p:Pg} {f:Pc} {procs:List aK} : ∀ {l:List Sm},(∀ v∈l,v.known p f procs=true)→zR p f procs l=none
 | [],_=>rfl
 |v::l,h=>by
  simp only[zR,h v (List.mem_cons_self ..),if_true]
  exact NM fun w m=>h w (List.mem_cons_of_mem _ m)
theorem HX {p:Pg} {procs:List aK} : ∀ {l:List Pc},(∀ f∈l,fv (p.globals++f.own)=false∧∀ v∈Sm.cf f.body,v.known p f procs=true)→tG p procs l=(0,0)
 | [],_=>rfl
 |f::l,h=>by
  obtain⟨h1,h2⟩:=h f (List.mem_cons_self ..)
  simp only[tG,h1,Bool.false_eq_true,if_false,NM h2]
  exact HX fun w m=>h w (List.mem_cons_of_mem _ m)
theorem Kt {p:Pg} (hm:p.may=true) (h1:fv p.globals=false) (h2:fv p.pn=false) (h3:p.oK=false) (h4 : ∀ f∈p.procs,fv (p.globals++f.own)=false∧∀ v∈Sm.cf f.body,v.known p f p.pn=true):p.scope=(0,0):=by
 unfold Pg.scope
 rw[if_pos hm,h1,h2,h3]
 exact HX h4
theorem Qk {p:Pg} : ∀ {l:List Sm},(∀ v∈l,(v.kind==4)=true→v.nG p=true)→HC p l=none
 | [],_=>rfl
 |v::l,h=>by
  simp only[HC]
  rw[if_neg,Qk fun w m=>h w (List.mem_cons_of_mem _ m)]
  intro c
  simp only[Bool.and_eq_true,Bool.not_eq_true']at c
  rw[h v (List.mem_cons_self ..) c.1]at c
  exact absurd c.2 (by simp)
theorem WG {p:Pg} (hs:(p.scope.1==0)=true) (h : ∀ v∈p.pre,(v.kind==4)=true→v.nG p=true):p.arity=(0,0):=by
 unfold Pg.arity
 rw[if_pos hs,Qk h]
 rfl
theorem HY {lK fin:List aK} : ∀ {l:List (Sm×Int)} {seen:List aK},vj lK fin seen l=none↔rS seen (fA (l.map Prod.fst)++fin)=false∧∀ q∈l,ky lK q.1 q.2=true
 | [],seen=>by
  simp only[vj,List.map_nil,fA,List.nil_append,List.not_mem_nil,false_imp_iff,implies_true,and_true]
  rw[DX]
  cases rS seen fin<;>simp
 | (v,lp)::l,seen=>by
  simp only[vj,List.map_cons,fA,List.append_assoc]
  rw[DX,Qc v.labels]
  cases h:rS seen v.labels
  ·simp only [Bool.false_eq_true,if_false,if_true,Bool.false_or]
   cases h2:ky lK v lp
   ·simp only [Bool.false_eq_true,if_false,reduceCtorEq,false_iff,not_and]
    intro _ h3
    have:=h3 (v,lp) (List.mem_cons_self ..)
    rw[h2]at this;cases this
   ·simp only [if_true,HY (l:=l),List.mem_cons]
    constructor
    ·rintro⟨h3,h4⟩
     refine⟨h3,fun q hq=>?_⟩
     rcases hq with rfl|hq
     ·exact h2
     ·exact h4 q hq
    ·rintro⟨h3,h4⟩
     exact⟨h3,fun q hq=>h4 q (.inr hq)⟩
  ·simp
theorem BP : ∀ {l:List Pc},vk l=none↔∀ f∈l,fv f.labels=false∧∀ q∈f.tM,ky f.labels q.1 q.2=true
 | []=>by simp[vk]
 | f::l=>by
  have e:vj f.labels f.fin [] f.tM=none↔fv f.labels=false∧∀ q∈f.tM,ky f.labels q.1 q.2=true:=by
   rw[HY,aeo];rfl
  simp only[vk,List.mem_cons]
  split
  ·rename_i id h
   simp only[reduceCtorEq,false_iff]
   intro h3
   rw[e.2 (h3 f (.inl rfl))]at h
   cases h
  ·rename_i h
   rw[BP (l:=l)]
   constructor
   ·intro h3 g hg
    rcases hg with rfl|hg
    ·exact e.1 h
    ·exact h3 g hg
   ·exact fun h3 g hg=>h3 g (.inr hg)
structure Pg.Right (p:Pg):Prop where
 may:p.may=true
 tg:fv p.globals=false
 tp:fv p.pn=false
 main:p.oK=false
 own : ∀ f∈p.procs,fv (p.globals++f.own)=false
 known : ∀ f∈p.procs,∀ v∈Sm.cf f.body,v.known p f p.pn=true
 lK : ∀ f∈p.procs,fv f.labels=false
 leads : ∀ f∈p.procs,∀ q∈f.tM,ky f.labels q.1 q.2=true
 fits : ∀ v∈p.pre,(v.kind==4)=true→v.nG p=true
 single : ∀ v∈p.pre,(v.kind==4)=true→v.q8 p=true
theorem Pg.Right.scope {p:Pg} (h:p.Right):p.scope=(0,0):=Kt h.may h.tg h.tp h.main fun f hf=>⟨h.own f hf,h.known f hf⟩
theorem Pg.Right.arity {p:Pg} (h:p.Right):p.arity=(0,0):=WG (by rw[h.scope];rfl) h.fits
theorem Pg.Right.jump {p:Pg} (h:p.Right):p.jump=(0,0):=by
 unfold Pg.jump
 rw[h.scope,BP.2 fun f hf=>⟨h.lK f hf,h.leads f hf⟩]
 rfl
theorem Pg.Right.alias {p:Pg} (h:p.Right):p.alias=(0,0):=by
 unfold Pg.alias
 rw[h.arity,NL h.single]
 rfl
theorem Pg.Right.check {p:Pg} (h:p.Right):p.check=(0,0):=by
 unfold Pg.check
 rw[h.scope,h.arity,h.jump,h.alias]
 rfl
theorem Gd {p:Pg} (h:(p.check.1==0)=true):p.Right:=by
 unfold Pg.check at h
 by_cases h1:(p.scope.1==0)=true
 ·rw [if_pos h1]at h
  by_cases h2:(p.arity.1==0)=true
  ·rw [if_pos h2]at h
   by_cases h3:(p.jump.1==0)=true
   ·rw [if_pos h3]at h
    obtain⟨k1,k2,k3,k4⟩:=F6 h1
    have hj:vk p.procs=none:=by
     unfold Pg.jump at h3
     rw[if_pos h1]at h3
     cases e:vk p.procs with
     |none=>rfl
     |some id=>rw[e]at h3;cases h3
    rw[BP]at hj
    exact⟨DM h1,k1,k2,k3,fun f hf=>(k4 f hf).1,fun f hf=>(k4 f hf).2,fun f hf=>(hj f hf).1,fun f hf=>(hj f hf).2,(NF h2).2,ZT h2 h⟩
   ·rw[if_neg h3]at h;exact absurd h h3
  ·rw[if_neg h2]at h;exact absurd h h2
 ·rw[if_neg h1]at h;exact absurd h h1
def AtR (R:Int→Prop) (a:Int):Prop:=a = -1∨R a
theorem EH {R:Int→Prop} {l:List Sm} {o:Int} (h : ∀ v∈Sm.cf l,R v.id) (ho:AtR R o):AtR R (dB l o):=by
 cases l with
 |nil=>exact ho
 |cons s l=>exact .inr (h s (by rw[Sm.cf,Sm.lz];exact List.mem_append_left _ (List.mem_cons_self ..)))
mutual
theorem aim {R:Int→Prop} (proc up next loop:Int) : ∀ s:Sm,(∀ v∈s.pre,R v.id)→AtR R next→(loop=0∨R loop)→
 ∀ x∈s.tJ proc up next loop,x.proc=proc∧AtR R x.next∧(x.loop=0∨R x.loop)∧AtR R (dB x.s.aP (-1))∧AtR R (dB x.s.aM (-1))∧x.s∈s.pre
 | ⟨id,kind,labels,name,pc,x,has,args,aP,aM⟩,h,hn,hl,y,m=>by
  have wJ:=h _ (by rw[Sm.lz];exact List.mem_cons_self ..)
  have h1 : ∀ v∈Sm.cf aP,R v.id:=fun v m=>h v (by rw[Sm.lz];exact List.mem_cons_of_mem _ (List.mem_append_left _ m))
  have h2 : ∀ v∈Sm.cf aM,R v.id:=fun v m=>h v (by rw[Sm.lz];exact List.mem_cons_of_mem _ (List.mem_append_right _ m))
  have rh:AtR R (if kind==6 then id else next):=by split;exact .inr wJ;exact hn
  have mF:(if kind==6 then id else loop)=0∨R (if kind==6 then id else loop):=by split;exact .inr wJ;exact hl
  rw[Sm.lz]
  simp only[Sm.tJ,List.mem_cons,List.mem_append]at m
  rcases m with rfl|m|m
  ·exact⟨rfl,hn,hl,EH h1 (.inl rfl),EH h2 (.inl rfl),List.mem_cons_self ..⟩
  ·obtain⟨g1,g2,g3,g4,g5,g6⟩:=wY proc id _ _ aP h1 rh mF y m
   exact⟨g1,g2,g3,g4,g5,List.mem_cons_of_mem _ (List.mem_append_left _ g6)⟩
  ·obtain⟨g1,g2,g3,g4,g5,g6⟩:=wY proc id _ _ aM h2 rh mF y m
   exact⟨g1,g2,g3,g4,g5,List.mem_cons_of_mem _ (List.mem_append_right _ g6)⟩
theorem wY {R:Int→Prop} (proc up next loop:Int) : ∀ l:List Sm,(∀ v∈Sm.cf l,R v.id)→AtR R next→(loop=0∨R loop)→
 ∀ x∈Sm.fF proc up next loop l,x.proc=proc∧AtR R x.next∧(x.loop=0∨R x.loop)∧AtR R (dB x.s.aP (-1))∧AtR R (dB x.s.aM (-1))∧x.s∈Sm.cf l
 | [],_,_,_,x,m=>by simp[Sm.fF]at m
 | s::l,h,hn,hl,x,m=>by
  simp only[Sm.cf,List.mem_append]at h
  simp only[Sm.fF,List.mem_append]at m
  simp only[Sm.cf,List.mem_append]
  rcases m with m|m
  ·obtain⟨g1,g2,g3,g4,g5,g6⟩:=aim proc up _ loop s (fun v m=>h v (.inl m)) (EH (fun v m=>h v (.inr m)) hn) hl x m
   exact⟨g1,g2,g3,g4,g5, .inl g6⟩
  ·obtain⟨g1,g2,g3,g4,g5,g6⟩:=wY proc up next loop l (fun v m=>h v (.inr m)) hn hl x m
   exact⟨g1,g2,g3,g4,g5, .inr g6⟩
end
theorem Ge {x:Im} : ∀ (l:List Pc) (k:Nat),x∈rI k l→∃ i f,l[i]? = some f∧x∈Sm.fF ((k+i:Nat):Int) 0 (-1) 0 f.body
 | [],_,h=>by simp[rI]at h
 | f::l,k,h=>by
  simp only[rI,List.mem_append]at h
  rcases h with h|h
  ·exact⟨0,f,rfl,h⟩
  ·obtain⟨i,g,h1,h2⟩:=Ge l (k+1) h
   exact⟨i+1,g,by simpa using h1,by rw[show k+(i+1)=k+1+i by omega];exact h2⟩
theorem Gf {x:Im} : ∀ (l:List Pc) (k:Nat) {i:Nat} {f:Pc},l[i]? = some f→x∈Sm.fF ((k+i:Nat):Int) 0 (-1) 0 f.body→x∈rI k l
 |f::l,k,0,g,h,m=>by simp at h;subst h;exact List.mem_append_left _ m
 |f::l,k,i+1,g,h,m=>List.mem_append_right _ (Gf l (k+1) (i:=i) (by simpa using h) (by rw[show k+1+i=k+(i+1) by omega];exact m))
theorem WH : ∀ (l:List Pc) (k:Nat),(rI k l).map Im.s=(l.map fun f=>Sm.cf f.body).flatten
 | [],_=>rfl
 |f::l,k=>by simp only[rI,List.map_append,tL,WH l,List.map_cons,List.flatten_cons]
theorem Ql {R:Int→Prop} {fin:List aK} {mR:aK} : ∀ {l:List Sm},(∀ v∈l,R v.id)→(gM fin mR l).2=true→AtR R (gM fin mR l).1
 | [],_,h=>by
  simp only[gM]at h ⊢
  split at h
  ·rename_i c;rw[if_pos c];exact .inl rfl
  ·cases h
 | v::l,hv,h=>by
  simp only[gM]at h ⊢
  split
  ·exact .inr (hv v (List.mem_cons_self ..))
  ·rename_i c
   rw[if_neg c]at h
   exact Ql (fun w m=>hv w (List.mem_cons_of_mem _ m)) h
def Hm (L:List Im) (k:Int) (a:Int):Prop:=1≤a∧a≤(L.length:Int)∧(dX L a).proc=k
structure BQ (p:Pg) (L:List Im) (x:Im) (f:Pc):Prop where
 self:dX L x.s.id=x∧1≤x.s.id∧x.s.id≤(L.length:Int)
 proc:p.procs[x.proc.toNat]? = some f∧0≤x.proc
 mem:x.s∈Sm.cf f.body
 next:AtR (Hm L x.proc) x.next
 loop:x.s.kind=7∨x.s.kind=8→Hm L x.proc x.loop
 aP:AtR (Hm L x.proc) (dB x.s.aP (-1))
 aM:AtR (Hm L x.proc) (dB x.s.aM (-1))
 xO:x.s.kind=10→AtR (Hm L x.proc) (gM f.fin x.s.name (Sm.cf f.body)).1
structure WI (p:Pg) (L:List Im):Prop where
 im : ∀ x∈L,∃ f,BQ p L x f
 head : ∀ (i:Nat) (f:Pc),p.procs[i]? = some f→AtR (Hm L i) (dB f.body (-1))
theorem pf {p:Pg} (h:p.Right):WI p p.aZ.L:=by
 have hL:=DW h.may
 have hs:p.aZ.L.map Im.s=p.pre:=by rw[hL,WH];rfl
 have hlen:p.aZ.L.length=p.pre.length:=by rw[← hs,List.length_map]
 have self : ∀ x∈p.aZ.L,dX p.aZ.L x.s.id=x∧1≤x.s.id∧x.s.id≤(p.aZ.L.length:Int):=fun x m=>by
  obtain⟨i,hi⟩:=List.getElem?_of_mem m
  have h1:=xJ h.may (i:=i) (v:=x.s) (by rw[← hs,List.getElem?_map,hi];rfl)
  have h2:=(List.getElem?_eq_some_iff.1 hi).1
  refine⟨?_,by omega,by omega⟩
  unfold dX
  rw[h1,show(((i+1:Nat):Int) - 1).toNat=i by omega,List.getD_eq_getElem?_getD,hi];rfl
 have there : ∀ (i:Nat) (f:Pc),p.procs[i]? = some f→∀ v∈Sm.cf f.body,Hm p.aZ.L i v.id:=fun i f hf v m=>by
  rw[← tL (i:Int) 0 (-1) 0 f.body]at m
  obtain⟨x,hx,rfl⟩:=List.mem_map.1 m
  have hxL:x∈p.aZ.L:=by rw[hL];exact Gf p.procs 0 hf (by simpa using hx)
  obtain⟨g1,g2,g3⟩:=self x hxL
  exact⟨g2,g3,by rw[g1];exact(wY (R:=fun _=>True) _ 0 (-1) 0 f.body (fun _ _=>trivial) (.inl rfl) (.inl rfl) x hx).1⟩
 refine⟨fun x m=>?_,fun i f hf=>EH (there i f hf) (.inl rfl)⟩
 have m':=m
 rw[hL]at m'
 obtain⟨i,f,h1,h2⟩:=Ge p.procs 0 m'
 have hf:=List.mem_of_getElem? h1
 rw[Nat.zero_add]at h2
 obtain⟨g1,g2,g3,g4,g5,g6⟩:=wY (R:=Hm p.aZ.L i) _ 0 (-1) 0 f.body (there i f h1) (.inl rfl) (.inl rfl) x h2
 have hl:=h.leads f hf (x.s,x.loop) (by rw[← F9 (i:Int) f];exact List.mem_map.2 ⟨x,h2,rfl⟩)
 refine⟨f,self x m,⟨by rw[g1];simpa using h1,by rw[g1];exact Int.natCast_nonneg _⟩,g6,by rw[g1];exact g2,fun hk=>?_,by rw[g1];exact g4,by rw[g1];exact g5,fun hk=>?_⟩
 ·rw [g1]
  refine g3.resolve_left fun e=>?_
  unfold ky at hl
  rw[if_pos (by rcases hk with hk|hk<;>simp[hk]),e]at hl
  cases hl
 ·rw [g1]
  refine Ql (there i f h1) ?_
  unfold ky at hl
  rw[if_neg (by simp[hk]),if_pos (by simp[hk])]at hl
  rw[yY];exact hl
theorem Hm.at {L:List Im} {k a:Int} (h:AtR (Hm L k) a):pF L a:=h.imp_right fun h=>⟨h.1,h.2.1⟩
theorem WI.lok {p:Pg} {L:List Im} (h:WI p L):Cw p L:=by
 refine⟨fun x m=>?_,fun x m=>?_,fun x m hk=>?_,fun x m hk=>?_,fun x m=>?_,fun x m=>?_,fun f hf=>?_⟩
 ·obtain⟨f,o⟩:=h.im x m;exact o.self.2
 ·obtain⟨f,o⟩:=h.im x m;exact Hm.at o.next
 ·obtain⟨f,o⟩:=h.im x m;exact⟨(o.loop hk).1,(o.loop hk).2.1⟩
 ·obtain⟨f,o⟩:=h.im x m;exact⟨f,o.proc.1,Hm.at (o.xO hk)⟩
 ·obtain⟨f,o⟩:=h.im x m;exact Hm.at o.aP
 ·obtain⟨f,o⟩:=h.im x m;exact Hm.at o.aM
 ·obtain⟨i,hi⟩:=List.getElem?_of_mem hf
  exact Hm.at (h.head i f hi)
theorem WJ {p:Pg} (h:p.Right):Cw p p.aZ.L:=(pf h).lok
theorem NO {vars globals:List aK} {n:aK} : ∀ {l:List Pm},yO vars globals n l≠0→n∈l.map (·.name)∨n∈vars∨n∈globals
 | [],h=>by
  simp only[yO]at h
  split at h
  ·rename_i e;exact .inr (.inl ((fy _ _).1 e))
  ·split at h
   ·rename_i e;exact .inr (.inr ((fy _ _).1 e))
   ·exact absurd rfl h
 | a::l,h=>by
  simp only[yO]at h
  split at h
  ·rename_i e;exact .inl (by simp only[List.map_cons,List.mem_cons];exact .inl (by simpa using Eq.symm (by simpa using e)))
  ·rcases NO h with h | h
   ·exact .inl (List.mem_cons_of_mem _ h)
   ·exact .inr h
theorem ZU {p:Pg} {f:Pc} {v:Sm} (h:v.known p f p.pn=true) {n:aK} (m:n∈v.said):n∈p.globals++f.own:=by
 simp only[Sm.known,Bool.and_eq_true,Bool.not_eq_true']at h
 have h1:f.kQ p n≠0:=fun e=>by
  have:v.said.any (fun n=>f.kQ p n==0)=true:=List.any_eq_true.2 ⟨n,m,by simp[e]⟩
  rw[h.1]at this;cases this
 simp only[List.mem_append,Pc.own,Pc.tF]
 rcases NO h1 with h2|h2|h2
 ·exact .inr (.inl h2)
 ·exact .inr (.inr h2)
 ·exact .inl h2
theorem wU {n:aK} : ∀ {l:List Ar} {out:List aK},n∈out∨(∃ a∈l,a.ref=true∧a.name=n)→n∈Ar.said out l
 | [],out,h=>by rcases h with h|⟨a,m,_⟩;exact h;cases m
 | b::l,out,h=>by
  simp only[Ar.said]
  refine wU ?_
  rcases h with h|⟨a,m,h1,h2⟩
  ·left;split<;>simp[h]
  ·rcases List.mem_cons.1 m with rfl | m
   ·left;rw[if_pos h1];simp[h2]
   ·exact .inr ⟨a,m,h1,h2⟩
theorem NP {x:aK} : ∀ {l:List aK} {k:Nat},x∈l→∃ j:Nat,jV x (k:Int) l=((k+j:Nat):Int)∧j<l.length
 | s::l,k,m=>by
  by_cases e:x=s
  ·subst e;exact⟨0,by simp[jV],by simp⟩
  ·have e':(x==s)=false:=by simp [e]
   obtain⟨j,h1,h2⟩:=NP (l:=l) (k:=k+1) ((List.mem_cons.1 m).resolve_left e)
   refine⟨j+1, ?_,by simp;omega⟩
   simp only[jV,e',Bool.false_eq_true,if_false]
   rw[show(k:Int)+1=((k+1:Nat):Int) by omega,h1];congr 1;omega
theorem EI {name:aK} {f:Pc} : ∀ {l:List Pc} {k:Nat},iC name l=some f→∃ j:Nat,lX (fun f:Pc=>f.name==name) (k:Int) l=((k+j:Nat):Int)∧l[j]? = some f
 | g::l,k,h=>by
  simp only[iC]at h
  by_cases e:(g.name==name)=true
  ·rw [if_pos e]at h;cases h
   exact⟨0,by simp only[lX,e,if_true,Nat.add_zero],rfl⟩
  ·have e':(g.name==name)=false:=by simpa using e
   rw[if_neg e]at h
   obtain⟨j,h1,h2⟩:=EI (l:=l) (k:=k+1) h
   refine⟨j+1, ?_,by simpa using h2⟩
   simp only[lX,e',Bool.false_eq_true,if_false]
   rw[show(k:Int)+1=((k+1:Nat):Int) by omega,h1];congr 1;omega
def Gg (p:Pg) (n:Nat) (fr:Fr):Prop:=∃ f,p.procs[fr.proc.toNat]? = some f∧0≤fr.proc∧fr.names=p.globals++f.own∧fr.vars.length=fr.names.length∧∀ c∈fr.vars,c<n
def EJ (L:List Im):List Fr→Prop
 | []=>False
 | [fr]=>fr.call=0
 |fr::wC::l=>(Hm L wC.proc fr.call∧(dX L fr.call).s.kind=4)∧EJ L (wC::l)
structure qP (p:Pg) (L:List Im) (a:Int) (m:Mc):Prop where
 st:EJ L m.st
 fr : ∀ fr∈m.st,Gg p m.mem.length fr
 at_:AtR (Hm L m.top.proc) a
 rF:p.globals.length≤m.mem.length
theorem Gg.mono {p:Pg} {n n':Nat} {fr:Fr} (h:Gg p n fr) (hn:n≤n'):Gg p n' fr:=by
 obtain⟨f,h1,h2,h3,h4,h5⟩:=h
 exact⟨f,h1,h2,h3,h4,fun c m=>Nat.lt_of_lt_of_le (h5 c m) hn⟩
theorem EJ.ne {L:List Im} {l:List Fr} (h:EJ L l) : ∃ fr r,l=fr::r:=by
 cases l with
 |nil=>exact h.elim
 |cons fr r=>exact⟨fr,r,rfl⟩
theorem Mc.aev {L:List Im} {m:Mc} (h:EJ L m.st):m.top∈m.st:=by
 obtain⟨fr,r,e⟩:=h.ne
 simp[Mc.top,e]
theorem qP.of {p:Pg} {L:List Im} {a a':Int} {m m':Mc} (h:qP p L a m) (h1:m'.st=m.st) (h2:m.mem.length≤m'.mem.length) (h3:AtR (Hm L m.top.proc) a'):qP p L a' m':=by
 have ht:m'.top=m.top:=by unfold Mc.top;rw[h1]
 exact⟨by rw[h1];exact h.st,fun fr hf=>(h.fr fr (by rw[← h1];exact hf)).mono h2,by rw[ht];exact h3,Nat.le_trans h.rF h2⟩
section
variable {p:Pg} {L:List Im} {m:Mc}
theorem aew {n:aK} {k:Nat} (h:Gg p k m.top) (hn:n∈m.top.names):m.cell n<k∧∃ j:Nat,jV n 0 m.top.names=(j:Int)∧m.top.vars[j]? = some (m.cell n):=by
 obtain⟨f,h1,h2,h3,h4,h5⟩:=h
 obtain⟨j,e1,e2⟩:=NP (k:=0) hn
 have e3:jV n 0 m.top.names=(j:Int):=by simpa using e1
 have e4:m.top.vars[j]? = some (m.cell n):=by
  unfold Mc.cell
  rw[e3,Int.toNat_natCast,List.getD_eq_getElem?_getD,List.getElem?_eq_getElem (by omega)];rfl
 exact⟨h5 _ (List.mem_of_getElem? e4),j,e3,e4⟩
theorem Je {k:Nat} (hk:p.globals.length≤k) : ∀ (l:List Ar) (m:Mc) (out:List Nat),Gg p m.mem.length m.top→(∀ a∈l,a.ref=true→a.name∈m.top.names)→(∀ c∈out,c<m.mem.length)→
 m.mem.length≤(Mc.args l m out).2.mem.length∧∀ o,(Mc.args l m out).1=some o→o.length=out.length+l.length∧∀ c∈o,c<(Mc.args l m out).2.mem.length
 | [],m,out,h,_,ho=>⟨Nat.le_refl _,fun o e=>by cases e;exact⟨rfl,ho⟩⟩
 | a::l,m,out,h,hn,ho=>by
  simp only[Mc.args]
  by_cases c:a.ref=true
  ·rw [if_pos c]
   obtain⟨g1,g2⟩:=Je hk l m (out++ [m.cell a.name]) h (fun b mb=>hn b (List.mem_cons_of_mem _ mb)) fun x mx=>by
    rcases List.mem_append.1 mx with mx|mx
    ·exact ho x mx
    ·rw[List.mem_singleton.1 mx];exact(aew h (hn a (List.mem_cons_self ..) c)).1
   exact⟨g1,fun o e=>⟨by rw[(g2 o e).1];simp;omega,(g2 o e).2⟩⟩
  ·rw [if_neg c]
   have he:=iO m a.x
   by_cases c2:(m.bg a.x).1.2=true
   ·rw [if_pos c2]
    have ht:({(m.bg a.x).2 with mem:=(m.bg a.x).2.mem++ [(m.bg a.x).1.1]} : Mc).top=m.top:=by unfold Mc.top;rw[he.1]
    have hl:(m.bg a.x).2.mem.length=m.mem.length:=by rw[he.2.1]
    obtain⟨g1,g2⟩:=Je hk l {(m.bg a.x).2 with mem:=(m.bg a.x).2.mem++ [(m.bg a.x).1.1]} (out++ [(m.bg a.x).2.mem.length]) (by rw[ht];exact h.mono (by simp[hl])) (by rw[ht];exact fun b mb=>hn b (List.mem_cons_of_mem _ mb)) fun x mx=>by
     rcases List.mem_append.1 mx with mx|mx
     ·have:=ho x mx;simp[hl];omega
     ·rw[List.mem_singleton.1 mx];simp
    exact⟨Nat.le_trans (by simp[hl]) g1,fun o e=>⟨by rw[(g2 o e).1];simp;omega,(g2 o e).2⟩⟩
   ·rw [if_neg c2]
    exact⟨by rw[he.2.1];exact Nat.le_refl _,fun o e=>by cases e⟩
theorem Qm (hP:WI p L) {i:Nat} {f:Pc} (hf:p.procs[i]? = some f) {l:List Nat} {call:Int} (hl:l.length=f.params.length) (hc : ∀ c∈l,c<m.mem.length) (hg:p.globals.length≤m.mem.length)
 (ur : ∀ fr∈m.st,Gg p m.mem.length fr) (jm:(m.st = []∧call=0)∨(EJ L m.st∧Hm L m.top.proc call∧(dX L call).s.kind=4)):qP p L (m.open p (i:Int) l call).1 (m.open p (i:Int) l call).2:=by
 unfold Mc.open
 rw[Int.toNat_natCast,hf]
 dsimp only
 refine⟨?_,fun fr h=>?_,by exact hP.head i f hf,by simp;omega⟩
 ·rcases jm with ⟨h1,h2⟩ | ⟨h1,h2⟩
  ·rw[h1];exact h2
  ·obtain⟨fr,r,e⟩:=h1.ne
   dsimp only
   rw[e]at h1 ⊢
   have:m.top=fr:=by simp[Mc.top,e]
   rw[this]at h2
   exact⟨h2,h1⟩
 ·rcases List.mem_cons.1 h with rfl | h
  ·refine⟨f,by rw [Int.toNat_natCast];exact hf,Int.natCast_nonneg _,rfl,by simp [Pc.own,Pc.tF,hl],fun c m=> ?_⟩
   simp only[List.mem_append,List.mem_range,List.mem_map]at m
   simp only[List.length_append,List.length_replicate]
   rcases m with (m|m)|⟨x,m,rfl⟩
   ·omega
   ·have:=hc c m;omega
   ·omega
  ·exact(ur fr h).mono (by simp)
theorem aex (hP:WI p L) {a:Int} (h:qP p L a m) {g:Int} {a':Int} {m':Mc} (e:m.back L g=(some a',m')):qP p L a' m':=by
 have hs:=h.st
 unfold Mc.back Mc.close at e
 dsimp only at e
 obtain⟨fr,r,es⟩:=hs.ne
 have ht:m.top=fr:=by simp[Mc.top,es]
 by_cases c:(m.top.call==0)=true
 ·rw[if_pos c]at e;cases e
 ·rw [if_neg c]at e
  rw[es]at hs
  cases r with
  |nil=>rw[ht]at c;exact absurd (beq_iff_eq.2 (show fr.call=0 from hs)) c
  | cons wC r=>
   obtain⟨⟨h1,_⟩,h2⟩:=hs
   have iM:dX L m.top.call∈L:=qO (.inr (by rw[ht];exact⟨h1.1,h1.2.1⟩)) (by have:=h1.1;rw[ht];omega)
   obtain⟨f,o⟩:=hP.im _ iM
   have ho:=o.next
   rw[show(dX L m.top.call).proc=wC.proc by rw[ht];exact h1.2.2]at ho
   rw[ht]at ho
   split at e<;>(dsimp only at e;split at e)<;>first|(cases e;done)|skip
   all_goals
    cases e
    refine⟨by simp only[Mc.set,es,List.tail_cons];exact h2,fun q hq=>?_,by simp only[Mc.set,Mc.top,es,List.tail_cons,List.headD_cons];exact ho,by simp only[Mc.set,List.length_set];exact h.rF⟩
    simp only[Mc.set,List.length_set]at hq ⊢
    exact h.fr q (by rw[es]at hq ⊢;exact List.mem_cons_of_mem _ hq)
end
theorem BR {p:Pg} (hR:p.Right) {x:Im} {f:Pc} (h:BQ p p.aZ.L x f) {n:aK} (m:n∈x.s.said):n∈p.globals++f.own:=
 ZU (hR.known f (List.mem_of_getElem? h.proc.1) x.s h.mem) m
theorem aey {p:Pg} (hR:p.Right) {x:Im} {f:Pc} (h:BQ p p.aZ.L x f) (hk:x.s.kind=4) : ∃ (j:Nat) (q:Pc),p.at x.s.proc=(j:Int)∧p.procs[j]? = some q∧x.s.args.length=q.params.length:=by
 have rH:x.s∈p.pre:=by
  simp only[Pg.pre,List.mem_flatten,List.mem_map];exact⟨_,⟨f,List.mem_of_getElem? h.proc.1,rfl⟩,h.mem⟩
 have hf:=hR.fits x.s rH (by simp[hk])
 unfold Sm.nG at hf
 simp only[Bool.and_eq_true]at hf
 cases e:p.find x.s.proc with
 |none=>rw[e]at hf;cases hf.2
 |some q=>
  rw[e]at hf
  obtain⟨j,h1,h2⟩:=EI (k:=0) e
  refine⟨j,q,by simpa[Pg.at]using h1,h2, ?_⟩
  have:=hf.2
  simp only[EC]at this
  split at this
  ·rename_i h3;have:=(beq_iff_eq.1 h3);omega
  ·cases this
theorem aez {p:Pg} (hR:p.Right) {m:Mc} {W:List Int} {x:Im} {f:Pc} {a a':Int} {m':Mc} (h:qP p p.aZ.L a m) (hx:BQ p p.aZ.L x f) (hk:x.s.kind=4) (hp:x.proc=m.top.proc) (NQ:(m.call p W x.s).2.fin=0)
 (e:m.call p W x.s=(a',m')) (h0:m.fin=0):qP p p.aZ.L a' m':=by
 have hP:=pf hR
 have BS:=h.fr _ (Mc.aev h.st)
 obtain⟨f',t1,t2,t3,t4,t5⟩:=BS
 have ef:f'=f:=by have:=hx.proc.1;rw[hp,t1]at this;exact Option.some.inj this
 subst ef
 have aio : ∀ b∈x.s.args,b.ref=true→b.name∈m.top.names:=fun b mb hb=>by
  rw[t3];exact BR hR hx (wU (.inr ⟨b,mb,hb,rfl⟩))
 obtain⟨j,q,c1,c2,c3⟩:=aey hR hx hk
 have g1:=Je h.rF x.s.args m [] ⟨f',t1,t2,t3,t4,t5⟩ aio (by simp)
 have g2:=wX x.s.args m []
 have g3:=BJ x.s.args m [] h0
 unfold Mc.call at e NQ
 generalize Mc.args x.s.args m [] = r at *
 obtain⟨o,m1⟩:=r
 cases o with
 |none=>
  dsimp only at NQ g3
  rw[g3.2]at NQ;cases NQ
 | some l=>
  dsimp only at e NQ g1 g2 g3
  by_cases c:m1.st.length > 100
  ·rw[if_pos c]at NQ;cases NQ
  ·rw [if_neg c]at e
   have he:=fz W m1 x.s.id []
   have ht:(m1.event W x.s.id []).top=m.top:=by unfold Mc.top;rw[he.1,g2.1]
   have:=Qm (m:=m1.event W x.s.id []) hP c2 (l:=l) (call:=x.s.id) (by rw[(g1.2 l rfl).1,c3];simp) (by rw[he.2.1];exact(g1.2 l rfl).2) (by rw[he.2.1];exact Nat.le_trans h.rF g1.1)
    (by rw[he.1,he.2.1,g2.1];exact fun fr ur=>(h.fr fr ur).mono g1.1) (.inr ⟨by rw[he.1,g2.1];exact h.st,by rw[ht];exact⟨hx.self.2.1,hx.self.2.2,by rw[hx.self.1];exact hp⟩,by rw[hx.self.1];exact hk⟩)
   rw[← c1,e]at this
   exact this
theorem amf {p:Pg} (hR:p.Right) {m:Mc} {T W:List Int} {x:Im} {f:Pc} {a:Int} (h:qP p p.aZ.L a m) (hx:BQ p p.aZ.L x f) (hp:x.proc=m.top.proc) :
 ((m.do p p.aZ.L T W x).2.fin=0→qP p p.aZ.L (m.do p p.aZ.L T W x).1 (m.do p p.aZ.L T W x).2):=by
 intro h0
 have ev : ∀ (m1:Mc) (id:Int) (bI:List Int),(m1.event W id bI).st=m1.st∧(m1.event W id bI).mem=m1.mem:=fun m1 id bI=>⟨(fz W m1 id bI).1,(fz W m1 id bI).2.1⟩
 have key : ∀ (m1:Mc) (b:Int),m1.st=m.st→m1.mem.length=m.mem.length→AtR (Hm p.aZ.L x.proc) b→qP p p.aZ.L b m1:=fun m1 b h1 h2 h3=>h.of h1 (Nat.le_of_eq h2.symm) (by rw[← hp];exact h3)
 have hw:=iO m x.s.x
 unfold Mc.do at h0 ⊢
 dsimp only at h0 ⊢
 by_cases c7:(x.s.kind==7)=true
 ·rw [if_pos c7]
  have hk:x.s.kind=7:=by simpa using c7
  have hl:=hx.loop (.inl hk)
  have iM:=qO (L:=p.aZ.L) (a:=x.loop) (.inr ⟨hl.1,hl.2.1⟩) (by have:=hl.1;omega)
  obtain⟨g,o⟩:=(pf hR).im _ iM
  refine key _ _ (ev _ _ _).1 (by rw[(ev _ _ _).2]) ?_
  have:=o.next
  rw[hl.2.2]at this;exact this
 rw[if_neg c7]at h0 ⊢
 by_cases c8:(x.s.kind==8)=true
 ·rw [if_pos c8]
  exact key _ _ (ev _ _ _).1 (by rw[(ev _ _ _).2]) (.inr (hx.loop (.inr (by simpa using c8))))
 rw[if_neg c8]at h0 ⊢
 by_cases Ku:(x.s.kind==10)=true
 ·rw [if_pos Ku]
  refine key _ _ (ev _ _ _).1 (by rw[(ev _ _ _).2]) ?_
  have:=hx.xO (by simpa using Ku)
  rw[hx.proc.1];exact this
 rw[if_neg Ku]at h0 ⊢
 by_cases c2:(x.s.kind==2)=true
 ·rw [if_pos c2]at h0 ⊢
  split at h0
  ·cases h0
  ·rename_i n e
   exact key _ _ (ev _ _ _).1 (by rw[(ev _ _ _).2];simp[Mc.set]) hx.next
 rw[if_neg c2]at h0 ⊢
 by_cases cw:(m.bg x.s.x).1.2=true
 ·rw [if_pos cw]at h0 ⊢
  have e1:((m.bg x.s.x).2.event W x.s.id [(m.bg x.s.x).1.1]).st=m.st:=(ev _ _ _).1.trans hw.1
  have e2:((m.bg x.s.x).2.event W x.s.id [(m.bg x.s.x).1.1]).mem.length=m.mem.length:=by rw[(ev _ _ _).2,hw.2.1]
  have fo : ∀ (l:List Sm) (b:Int),AtR (Hm p.aZ.L x.proc) (dB l (-1))→AtR (Hm p.aZ.L x.proc) b→AtR (Hm p.aZ.L x.proc) (firstM l b):=fun l b h1 h2=>by
   cases l with
   |nil=>exact h2
   |cons s l=>exact h1
  split
  ·exact key _ _ e1 (by simp only[Mc.set,List.length_set];exact e2) hx.next
  split
  ·exact key _ _ e1 e2 hx.next
  split
  ·refine key _ _ e1 e2 ?_
   split
   ·exact fo _ _ hx.aM hx.next
   ·exact fo _ _ hx.aP hx.next
  split
  ·refine key _ _ e1 e2 ?_
   split
   ·exact hx.next
   ·exact fo _ _ hx.aP (.inr ⟨hx.self.2.1,hx.self.2.2,by rw[hx.self.1]⟩)
  ·exact key _ _ e1 e2 hx.next
 ·rw [if_neg cw]at h0
  have:(m.bg x.s.x).2.fin=4:=by unfold Mc.bg;dsimp only;rw[if_neg (show ¬ (x.s.x.bg m.top.names m.bI).2=true from cw)]
  rw[this]at h0;cases h0
end Go.Abs
