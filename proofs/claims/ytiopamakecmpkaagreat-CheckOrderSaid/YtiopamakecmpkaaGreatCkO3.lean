/-
  What is proved here: part 3 of the road to the claim (MayEq2, Tree1, Tree2, Sc1, Sc2, Sc3, ScP, Sc4, Rng, FineM, Sc5, Ar1, Ar2, Ar3, Srt1, Shelf, SortR, SrtP, Tc1, Tc2, Tc3, Bsl, Tc4, Tc5, Tc6, Tc7, ScPr, FlP, JmpP, Jm1, Jm2, Jm3, Rj1, Rj2, Swap0, Swap2p, ToP, Al1, Al2, Al3, Prs3, Prs4, Prs5, Prs6, Lex3, MirParse, Prs7, Room1, Al4, Full1).
  No conditions.
-/
import Derived.Test.YtiopamakecmpkaaGreatCkO2
import Derived.Shelf.Small.Bits
import Derived.Shelf.Strconv.Itoa0
import Derived.Shelf.Sort.Plain
import Derived.Shelf.Slices.Turned
import Derived.Ground.Names2Prog
import Derived.Shelf.Slices.Clone
import Derived.Shelf.Slices.CompactS
import Derived.Shelf.Slices.Cells
import Derived.Shelf.Slices.In.SortNone
import Derived.Ground.SlgnProg
import Derived.Shelf.SlicesE.Clone
import Derived.Test.YtiopamakecmpkaaGreatProg
import Derived.Sort.Walk0

set_option linter.unusedSimpArgs false
set_option linter.unusedVariables false

/-! MayEq2 -/

namespace Go.Abs
theorem jF : ∀ (a b:List It) (n:Nat),It.eB n (a++b)=(It.eB n a && It.eB (n+a.length) b)
 | [],b,n=>by simp [It.eB]
 | i::a,b,n=>by
  simp only [List.cons_append,It.eB,jF a b (n+1),List.length_cons]
  have:n+1+a.length=n+(a.length+1):=by omega
  rw [this]
  split <;> simp
theorem A4 (n:Nat) (i:It):It.eB n [i] = true↔i.s.id=((n+1:Nat):Int)∧i.deep≤12∧i.s.one=true:=by
 simp only [It.eB]
 split
 ·rename_i h
  simp only [Bool.or_eq_true,bne_iff_ne,ne_eq,decide_eq_true_eq,Bool.not_eq_true']at h
  refine⟨fun h=>(Bool.false_ne_true h).elim,fun⟨h1,h2,h3⟩=> ?_⟩
  rcases h with (h | h) | h
  ·exact(h h1).elim
  ·omega
  ·rw [h]at h3;cases h3
 ·rename_i h
  simp only [Bool.or_eq_true,bne_iff_ne,ne_eq,decide_eq_true_eq,Bool.not_eq_true',not_or,Decidable.not_not,Bool.not_eq_false]at h
  exact⟨fun _=>⟨h.1.1,by omega,h.2⟩,fun _=>rfl⟩
mutual
theorem xV (deep bZ:Int) (aW:Bool) : ∀ (s:Sm) (out:List It),∃ new,iR deep bZ aW out s=out++(⟨s,deep,bZ,aW⟩::new)
 | ⟨id,kind,labels,name,proc,x,has,args,a7,e⟩,out=>by
  simp only [iR]
  split
  ·obtain⟨n1,h1⟩:=oQ (deep+1) id false a7 (out++ [⟨⟨id,kind,labels,name,proc,x,has,args,a7,e⟩,deep,bZ,aW⟩])
   obtain⟨n2,h2⟩:=oQ (deep+1) id true e (fq (deep+1) id false (out++ [⟨⟨id,kind,labels,name,proc,x,has,args,a7,e⟩,deep,bZ,aW⟩]) a7)
   rw [h2,h1]
   exact⟨n1++n2,by simp⟩
  ·exact⟨[],rfl⟩
theorem oQ (deep bZ:Int) (aW:Bool) : ∀ (l:List Sm) (out:List It),∃ new,fq deep bZ aW out l=out++new
 | [],out=>⟨[],by simp [fq]⟩
 | s::l,out=>by
  simp only [fq]
  split
  ·obtain⟨n1,h1⟩:=xV deep bZ aW s out
   obtain⟨n2,h2⟩:=oQ deep bZ aW l (iR deep bZ aW out s)
   rw [h2,h1]
   exact⟨⟨s,deep,bZ,aW⟩::n1++n2,by simp⟩
  ·exact⟨[],by simp⟩
end
theorem C2 {nest:Int} {n:Nat} {s:Sm} (h:(Sm.nY nest n s).1=true) :
 n+1≤200∧s.id=((n+1:Nat):Int)∧s.one=true∧(Sm.fH (nest+1) (n+1) s.a7).1=true∧(Sm.fH (nest+1) (Sm.fH (nest+1) (n+1) s.a7).2 s.aW).1=true∧
 (Sm.nY nest n s).2=(Sm.fH (nest+1) (Sm.fH (nest+1) (n+1) s.a7).2 s.aW).2:=by
 rw [Ce]at h ⊢
 split at h
 ·cases h
 rename_i h1
 simp only [Bool.or_eq_true,bne_iff_ne,ne_eq,decide_eq_true_eq,Bool.not_eq_true',not_or,Decidable.not_not,Bool.not_eq_false]at h1
 split at h
 ·cases h
 rename_i h2
 have u5:(Sm.fH (nest+1) (n+1) s.a7).1=true:=by simpa using h2
 refine⟨by omega,h1.1.1.2, ?_,u5,h, ?_⟩
 ·rw [A3,h1.1.2,h1.2];rfl
 ·rw [if_neg (by simp only [Bool.or_eq_true,bne_iff_ne,ne_eq,decide_eq_true_eq,Bool.not_eq_true',not_or,Decidable.not_not,Bool.not_eq_false];exact h1),if_neg h2]
theorem qU {nest:Int} {n:Nat} {l:List Sm} (h:(Sm.fH nest n l).1=true):(l = []∨nest≤12)∧Sm.fH nest n l=Sm.ey nest n l:=by
 unfold Sm.fH gate at *
 split at h
 ·cases h
 ·rename_i hc
  rw [if_neg hc]
  refine⟨?_,rfl⟩
  simp only [Bool.and_eq_true,decide_eq_true_eq,not_and]at hc
  cases l with
  | nil=>exact .inl rfl
  | cons s l=>right;simp only [List.length_cons]at hc;omega
mutual
theorem MC : ∀ (s:Sm) (nest bZ:Int) (aW:Bool) (n:Nat) (out:List It),nest≤12→out.length≤n→n≤200→(Sm.nY nest n s).1=true→
 ∃ new,iR nest bZ aW out s=out++new∧It.eB n new=true∧n+new.length=(Sm.nY nest n s).2∧(Sm.nY nest n s).2≤200
 | ⟨id,kind,labels,name,proc,x,has,args,a7,e⟩,nest,bZ,aW,n,out,MD,ho,hn,h=>by
  obtain⟨h1,h2,h3,h4,h5,h6⟩:=C2 h
  dsimp only at h2 h4 h5 h6
  rw [h6]
  obtain⟨g1,e1⟩:=qU h4
  rw [e1]at h4 h5 ⊢
  obtain⟨g2,e2⟩:=qU h5
  rw [e2]at h5 ⊢
  have vv:It.eB n [(⟨⟨id,kind,labels,name,proc,x,has,args,a7,e⟩,nest,bZ,aW⟩:It)] = true:=(A4 _ _).2 ⟨h2,MD,h3⟩
  obtain⟨n1,k1,k2,k3,k4⟩:=tP a7 (nest+1) id false (n+1) (out++ [⟨⟨id,kind,labels,name,proc,x,has,args,a7,e⟩,nest,bZ,aW⟩]) g1 (by simp;omega) h1 h4
  obtain⟨n2,j1,j2,j3,j4⟩:=tP e (nest+1) id true _ (out++ [⟨⟨id,kind,labels,name,proc,x,has,args,a7,e⟩,nest,bZ,aW⟩]++n1) g2 (by simp;omega) k4 h5
  simp only [iR]
  rw [if_pos (by simpa using MD),k1,j1]
  refine⟨⟨⟨id,kind,labels,name,proc,x,has,args,a7,e⟩,nest,bZ,aW⟩::(n1++n2),by simp, ?_, ?_,j4⟩
  ·have:(⟨⟨id,kind,labels,name,proc,x,has,args,a7,e⟩,nest,bZ,aW⟩:It)::(n1++n2) = [⟨⟨id,kind,labels,name,proc,x,has,args,a7,e⟩,nest,bZ,aW⟩]++n1++n2:=by simp
   rw [this,jF,jF,vv,Bool.true_and]
   have e3:n+([(⟨⟨id,kind,labels,name,proc,x,has,args,a7,e⟩,nest,bZ,aW⟩:It)]++n1).length=(Sm.ey (nest+1) (n+1) a7).2:=by simp;omega
   rw [e3,j2]
   have e4:n + [(⟨⟨id,kind,labels,name,proc,x,has,args,a7,e⟩,nest,bZ,aW⟩:It)].length=n+1:=rfl
   rw [e4,k2];rfl
  ·simp only [List.length_cons,List.length_append];omega
theorem tP : ∀ (l:List Sm) (nest bZ:Int) (aW:Bool) (n:Nat) (out:List It),(l = []∨nest≤12)→out.length≤n→n≤200→(Sm.ey nest n l).1=true→
 ∃ new,fq nest bZ aW out l=out++new∧It.eB n new=true∧n+new.length=(Sm.ey nest n l).2∧(Sm.ey nest n l).2≤200
 | [],nest,bZ,aW,n,out,MD,ho,hn,h=>⟨[],by simp [fq],rfl,by simp [Sm.ey],by simpa [Sm.ey]using hn⟩
 | s::l,nest,bZ,aW,n,out,MD,ho,hn,h=>by
  have Xh:nest≤12:=MD.resolve_left (by simp)
  simp only [Sm.ey]at h ⊢
  split at h
  ·cases h
  rename_i hc
  rw [if_neg hc]
  obtain⟨n1,k1,k2,k3,k4⟩:=MC s nest bZ aW n out Xh ho hn (by simpa using hc)
  obtain⟨n2,j1,j2,j3,j4⟩:=tP l nest bZ aW _ (out++n1) (.inr Xh) (by simp;omega) k4 h
  simp only [fq]
  rw [if_pos (by simp only [decide_eq_true_eq];omega),k1,j1]
  refine⟨n1++n2,by simp, ?_,by simp;omega,j4⟩
  rw [jF,k2,k3,j2];rfl
end
mutual
theorem ME : ∀ (s:Sm) (nest bZ:Int) (aW:Bool) (n:Nat) (out new:List It),iR nest bZ aW out s=out++new→It.eB n new=true→out.length≤n→n+new.length≤200→
 Sm.nY nest n s=(true,n+new.length)∧nest≤12
 | ⟨id,kind,labels,name,proc,x,has,args,a7,e⟩,nest,bZ,aW,n,out,new,pO,hm,ho,hn=>by
  obtain⟨n0,h0⟩:=xV nest bZ aW ⟨id,kind,labels,name,proc,x,has,args,a7,e⟩ out
  have e0:new = ⟨⟨id,kind,labels,name,proc,x,has,args,a7,e⟩,nest,bZ,aW⟩::n0:=List.append_cancel_left (pO.symm.trans h0)
  subst e0
  have aaF:(⟨⟨id,kind,labels,name,proc,x,has,args,a7,e⟩,nest,bZ,aW⟩:It)::n0 = [⟨⟨id,kind,labels,name,proc,x,has,args,a7,e⟩,nest,bZ,aW⟩]++n0:=rfl
  rw [aaF,jF,Bool.and_eq_true]at hm
  obtain⟨Fy,hm2⟩:=hm
  obtain⟨c1,c2,c3⟩:=(A4 _ _).1 Fy
  dsimp only at c1 c2 c3
  simp only [List.length_cons]at hn ⊢
  have PY:fq (nest+1) id true (fq (nest+1) id false (out++ [⟨⟨id,kind,labels,name,proc,x,has,args,a7,e⟩,nest,bZ,aW⟩]) a7) e=out++([⟨⟨id,kind,labels,name,proc,x,has,args,a7,e⟩,nest,bZ,aW⟩]++n0):=by
   simp only [iR]at pO
   rw [if_pos (by simpa using c2)]at pO
   exact pO
  obtain⟨n1,g1⟩:=oQ (nest+1) id false a7 (out++ [⟨⟨id,kind,labels,name,proc,x,has,args,a7,e⟩,nest,bZ,aW⟩])
  obtain⟨n2,g2⟩:=oQ (nest+1) id true e (fq (nest+1) id false (out++ [⟨⟨id,kind,labels,name,proc,x,has,args,a7,e⟩,nest,bZ,aW⟩]) a7)
  have en:n0=n1++n2:=by
   rw [g2,g1]at PY
   simp only [List.append_assoc,List.append_cancel_left_eq]at PY
   exact PY.symm
  subst en
  have PZ:It.eB (n+1) (n1++n2)=true:=hm2
  rw [jF,Bool.and_eq_true]at PZ
  simp only [List.length_append]at hn ⊢
  obtain⟨r1,r2⟩:=tQ a7 (nest+1) id false (n+1) _ n1 g1 PZ.1 (by simp;omega) (by omega)
  obtain⟨q1,q2⟩:=tQ e (nest+1) id true (n+1+n1.length) _ n2 g2 PZ.2 (by rw [g1];simp;omega) (by omega)
  refine⟨?_,c2⟩
  have gg : ∀ {l:List Sm} {m:Nat} {r:Bool×Nat},Sm.ey (nest+1) m l=r→(l = []∨nest+1≤12)→Sm.fH (nest+1) m l=r:=by
   intro l m r h1 h2
   unfold Sm.fH gate
   rw [if_neg]
   ·exact h1
   ·simp only [Bool.and_eq_true,decide_eq_true_eq,not_and]
    rcases h2 with h2 | h2
    ·subst h2;simp
    ·omega
  have t1:=gg r1 r2
  have t2:=gg q1 q2
  rw [Ce]
  dsimp only
  rw [t1]
  dsimp only
  rw [t2]
  rw [A3,Bool.and_eq_true]at c3
  rw [if_neg]
  ·simp;omega
  ·simp only [Bool.or_eq_true,bne_iff_ne,ne_eq,decide_eq_true_eq,Bool.not_eq_true',not_or,Decidable.not_not,Bool.not_eq_false]
   exact⟨⟨⟨by omega,c1⟩,c3.1⟩,c3.2⟩
theorem tQ : ∀ (l:List Sm) (nest bZ:Int) (aW:Bool) (n:Nat) (out new:List It),fq nest bZ aW out l=out++new→It.eB n new=true→out.length≤n→n+new.length≤200→
 Sm.ey nest n l=(true,n+new.length)∧(l = []∨nest≤12)
 | [],nest,bZ,aW,n,out,new,pO,hm,ho,hn=>by
  simp only [fq]at pO
  have:new = []:=by simpa using pO
  subst this
  exact⟨by simp [Sm.ey], .inl rfl⟩
 | s::l,nest,bZ,aW,n,out,new,pO,hm,ho,hn=>by
  simp only [fq]at pO
  rw [if_pos (by simp only [decide_eq_true_eq];omega)]at pO
  obtain⟨n1,g1⟩:=xV nest bZ aW s out
  obtain⟨n2,g2⟩:=oQ nest bZ aW l (iR nest bZ aW out s)
  have en:new=(⟨s,nest,bZ,aW⟩::n1)++n2:=by
   rw [g2,g1,List.append_assoc,List.append_cancel_left_eq]at pO
   exact pO.symm
  subst en
  rw [jF,Bool.and_eq_true]at hm
  rw [List.length_append]at hn ⊢
  obtain⟨r1,r2⟩:=ME s nest bZ aW n out _ g1 hm.1 ho (by omega)
  obtain⟨q1,q2⟩:=tQ l nest bZ aW (n+(⟨s,nest,bZ,aW⟩::n1:List It).length) _ n2 g2 hm.2 (by rw [g1,List.length_append];omega) (by omega)
  refine⟨?_, .inr r2⟩
  simp only [Sm.ey,r1,Bool.not_true,Bool.false_eq_true, ↓reduceIte,q1]
  congr 1;omega
end
theorem xW : ∀ (l:List Pc) (out:List It),out.length≤200→(Pc.ey out.length l=true↔Pc.oz l=true∧∃ new,allM out l=out++new∧(out++new).length≤200∧It.eB out.length new=true)
 | [],out,ho=>by simp [Pc.ey,Pc.oz,allM,It.eB];exact ho
 | f::l,out,ho=>by
  have uL : ∀ (l:List Pc) (out:List It),∃ new,allM out l=out++new:=by
   intro l
   induction l with
   | nil=>intro out;exact⟨[],by simp [allM]⟩
   | cons f l ih=>
    intro out
    simp only [allM]
    split
    ·exact⟨_,rfl⟩
    ·obtain⟨n1,h1⟩:=ih (out++f.flat)
     exact⟨f.flat++n1,by rw [h1,List.append_assoc]⟩
  simp only [Pc.ey,Pc.oz]
  have aaG:(decide ((f.params.length:Int) > 8) || decide ((f.vars.length:Int) > 16) || !(isName f.name) || !(df f.vars) || !(df f.fin))=(!(isName f.name) || decide ((f.params.length:Int) > 8) || decide ((f.vars.length:Int) > 16) || !(df f.vars) || !(df f.fin)):=by
   cases isName f.name <;> simp
  rw [aaG]
  split
  ·simp
  split
  ·simp
  have hg:Sm.fH 1 out.length f.body=Sm.ey 1 out.length f.body:=by unfold Sm.fH gate;rw [if_neg (by simp)]
  rw [hg]
  constructor
  ·intro h
   split at h
   ·cases h
   rename_i hc
   obtain⟨n1,k1,k2,k3,k4⟩:=tP f.body 1 0 false out.length [] (.inr (by omega)) (by simp) ho (by simpa using hc)
   have pO:f.flat=n1:=by unfold Pc.flat;rw [k1];rfl
   rw [← k3, ← List.length_append]at h
   obtain⟨hh,n2,j1,j2,j3⟩:=(xW l (out++n1) (by rw [List.length_append];omega)).1 h
   refine⟨hh,n1++n2, ?_,by simpa using j2, ?_⟩
   ·simp only [allM,pO]
    rw [if_neg (by simp only [List.length_append,decide_eq_true_eq];omega),j1,List.append_assoc]
   ·rw [jF,k2, ← List.length_append,j3];rfl
  ·rintro⟨hh,new,j1,j2,j3⟩
   simp only [allM]at j1
   split at j1
   ·rename_i hc
    have:new=f.flat:=(List.append_cancel_left j1).symm
    subst this
    simp only [decide_eq_true_eq]at hc
    omega
   rename_i hc
   simp only [decide_eq_true_eq]at hc
   obtain⟨n2,g2⟩:=uL l (out++f.flat)
   have en:new=f.flat++n2:=by
    rw [g2,List.append_assoc]at j1
    exact(List.append_cancel_left j1).symm
   subst en
   rw [jF,Bool.and_eq_true]at j3
   rw [List.length_append,List.length_append]at j2
   obtain⟨r1,_⟩:=tQ f.body 1 0 false out.length [] f.flat (by unfold Pc.flat;rfl) j3.1 (by simp) (by omega)
   rw [r1]
   simp only [Bool.not_true,Bool.false_eq_true, ↓reduceIte]
   rw [← List.length_append]
   exact(xW l (out++f.flat) (by rw [List.length_append];omega)).2 ⟨hh,n2,g2,by simp;omega,by rw [List.length_append];exact j3.2⟩
theorem yr (p:Pg):p.Cg=p.may:=by
 have h:=xW p.procs [] (by simp)
 unfold Pg.Cg Pg.may
 split
 ·rfl
 ·have e:Pc.ey 0 p.procs=(if !(Pc.oz p.procs)then false else if decide ((p.all.length:Int) > 200)then false else It.eB 0 p.all):=by
   rw [Bool.eq_iff_iff]
   have h':Pc.ey 0 p.procs=true↔_:=h
   rw [h']
   have ha:p.all=allM [] p.procs:=rfl
   constructor
   ·rintro⟨h1,new,h2,h3,h4⟩
    rw [ha,h2,h1]
    simp only [List.nil_append]at h3 ⊢
    simp only [Bool.not_true,Bool.false_eq_true, ↓reduceIte]
    rw [if_neg (by simp only [decide_eq_true_eq];omega)]
    exact h4
   ·intro h1
    cases hh:Pc.oz p.procs
    ·rw [hh]at h1;simp at h1
    ·rw [hh]at h1
     simp only [Bool.not_true,Bool.false_eq_true, ↓reduceIte]at h1
     split at h1
     ·cases h1
     ·rename_i hc
      simp only [decide_eq_true_eq]at hc
      exact⟨rfl,p.all,by rw [ha];rfl,by simp;omega,h1⟩
  exact e
end Go.Abs

/-! Tree1 -/

namespace Go.Abs
set_option maxRecDepth 8000
open Go.Proofs
theorem A5 {size bytes z:Nat} {g:Tag} {rows:List (List D)} {s:St} (h:rows.length*(bytes+1)≤bI) (hr:rows≠ []) :
 jX size bytes (.slice .full z []) (.slice g size rows) s=some (.slice (.tok s.aC.length) size rows,⟨s.aw,s.aC++ [some rows.length]⟩):=by
 cases rows with
 | nil=>exact absurd rfl hr
 | cons r l=>simp only [jX];simp at h ⊢;exact h
theorem tR {l:List aB} (hl:l.length<1073741824) (g:Tag) (s:St):aD Tryz.prog fZ [.slice g 1 (l.map encStr)] s (.slice .shared 1 (l.map encStr)) s:=by
 refine dT.zr (.cons (Wk.shared _ _ _) .nil) (aD.pure ?_ (by simp [D.bH,D.ok,Tag.ok,eH]) (by simp [D.ok,Tag.ok,eH]) s)
 unfold S0
 refine aD.go s7 rfl fun B Q hB hQ=> ?_
 have⟨hF,hP,hY,hZ⟩:=bt
 cases l with
 | nil=>
  repeat' (first
 | simp only [go_sem,hF,hP,hY,hZ]
 | (with_reducible refine aH hQ ?_;simp only [az,aA,Option.some.injEq,exists_eq_left',go_sem,hF,hP,hY,hZ];repeat' (first | exact Ok.out | with_reducible refine aE ?_ ?_ | (simp;done))))
  refine E0 (fun _=> ?_) ?_
  ·repeat' (first
 | simp only [go_sem,hF,hP,hY,hZ,jX,true_or,Nat.zero_le]
 | (with_reducible refine aH hQ ?_;simp only [az,aA,Option.some.injEq,exists_eq_left',go_sem,hF,hP,hY,hZ];repeat' (first | exact Ok.out | with_reducible refine aE ?_ ?_ | (simp;done))))
  ·repeat' (first
 | simp only [go_sem,hF,hP,hY,hZ,jX,true_or,Nat.zero_le]
 | (with_reducible refine aH hQ ?_;simp only [az,aA,Option.some.injEq,exists_eq_left',go_sem,hF,hP,hY,hZ];repeat' (first | exact Ok.out | with_reducible refine aE ?_ ?_ | (simp;done))))
 | cons x l=>
  have e:((x::l).map encStr).length*(16+1)≤bI:=by simp only [List.length_map,bI];omega
  have e2:=fun s=>A5 (size:=1) (z:=1) (g:= .shared) (s:=s) e (by simp)
  simp only [List.map_cons,encStr]at e2
  repeat' (first
 | simp only [go_sem,hF,hP,hY,hZ,e2]
 | (with_reducible refine aH hQ ?_;simp only [az,aA,Option.some.injEq,exists_eq_left',go_sem,hF,hP,hY,hZ];repeat' (first | exact Ok.out | with_reducible refine aE ?_ ?_ | (simp;done))))
theorem P0 {l:List Pm} (hl:l.length<1073741824) (g:Tag) (s:St):aD Tryz.prog j8 [.slice g 2 (l.map fD)] s (.slice .shared 2 (l.map fD)) s:=by
 refine dT.zr (.cons (Wk.shared _ _ _) .nil) (aD.pure ?_ (by simp [D.bH,D.ok,Tag.ok,JH]) (by simp [D.ok,Tag.ok,JH]) s)
 unfold S0
 refine aD.go rl rfl fun B Q hB hQ=> ?_
 have⟨hF,hP,hY,hZ⟩:=bt
 cases l with
 | nil=>
  repeat' (first
 | simp only [go_sem,hF,hP,hY,hZ]
 | (with_reducible refine aH hQ ?_;simp only [az,aA,Option.some.injEq,exists_eq_left',go_sem,hF,hP,hY,hZ];repeat' (first | exact Ok.out | with_reducible refine aE ?_ ?_ | (simp;done))))
  refine E0 (fun _=> ?_) ?_
  ·repeat' (first
 | simp only [go_sem,hF,hP,hY,hZ,jX,true_or,Nat.zero_le]
 | (with_reducible refine aH hQ ?_;simp only [az,aA,Option.some.injEq,exists_eq_left',go_sem,hF,hP,hY,hZ];repeat' (first | exact Ok.out | with_reducible refine aE ?_ ?_ | (simp;done))))
  ·repeat' (first
 | simp only [go_sem,hF,hP,hY,hZ,jX,true_or,Nat.zero_le]
 | (with_reducible refine aH hQ ?_;simp only [az,aA,Option.some.injEq,exists_eq_left',go_sem,hF,hP,hY,hZ];repeat' (first | exact Ok.out | with_reducible refine aE ?_ ?_ | (simp;done))))
 | cons x l=>
  have e:((x::l).map fD).length*(24+1)≤bI:=by simp only [List.length_map,bI];omega
  have e2:=fun s=>A5 (size:=2) (z:=2) (g:= .shared) (s:=s) e (by simp)
  simp only [List.map_cons,encStr]at e2
  repeat' (first
 | simp only [go_sem,hF,hP,hY,hZ,e2]
 | (with_reducible refine aH hQ ?_;simp only [az,aA,Option.some.injEq,exists_eq_left',go_sem,hF,hP,hY,hZ];repeat' (first | exact Ok.out | with_reducible refine aE ?_ ?_ | (simp;done))))
theorem Xi : ∀ n,n<1073741824→∀ x:Ex,x.size≤n→aD Tryz.prog kW [.agg (bp x)] S0 (.agg (bp x)) S0:=by
 intro n
 induction n with
 | zero=>rintro _ ⟨op,m,name,kids⟩ h;simp only [Ex.size]at h;omega
 | succ n WX=>
 rintro hn ⟨op,m,name,kids⟩ hx
 have hk : ∀ y∈kids,∀ s,aD Tryz.prog kW [.agg (bp y)] s (.agg (bp y)) s:=fun y hy s=>
  (WX (by omega) y (by simp only [Ex.size]at hx;have:=Ex.b9 hy;omega)).pure (by simp [D.bH,D.ok,gw]) (by simp [D.ok,gw]) s
 have hlen:kids.length<1073741824:=by simp only [Ex.size]at hx;have:=Ex.dq kids;omega
 unfold S0
 refine aD.go DF rfl fun B Q hB hQ=> ?_
 have⟨hF,hP,hY,hZ⟩:=bt
 repeat' (first
 | simp only [go_sem,hF,hP,hY,hZ]
 | (with_reducible refine aH hQ ?_;simp only [az,aA,Option.some.injEq,exists_eq_left',go_sem,hF,hP,hY,hZ];repeat' (first | exact Ok.out | with_reducible refine aE ?_ ?_ | (simp;done))))
 refine bm.sw 0 3 4 rfl rfl ?_
 simp only [go_sem,hF,hP,hY,hZ]
 refine cM 2 1 (bm.ind (ι:=List Ex×Nat×List Ex) (fun i=>kids.drop i.2.1=i.1∧i.2.1=i.2.2.length∧i.2.2++i.1=kids) (fun i=>i.1.length)
  (fun i=> [(1, .ptr 0 0),(2, .ptr 1 0),(9, .slice .shared 4 (kids.map bp)),(10, .int .i64 (kids.length:Int)),(11, .int .i64 (i.2.1:Int))])
  (fun i=>⟨[[.int .i64 op, .int .i64 m, .str name, .slice (.tok 0) 4 (i.2.2.map bp)],bp la],[some i.2.1]⟩) ?_ (kids,0,[]) ⟨rfl,rfl,rfl⟩)
 rintro⟨rest,k,acc⟩ ⟨h1,h2,h3⟩ IH
 dsimp only at h1 h2 h3
 subst h2
 cases rest with
 | nil=>
  have hF:=drop_nil h1
  rw [List.append_nil]at h3
  subst h3
  repeat' (first
 | simp only [go_sem,hF,hP,hY,hZ]
 | (with_reducible refine aH hQ ?_;simp only [az,aA,Option.some.injEq,exists_eq_left',go_sem,hF,hP,hY,hZ];repeat' (first | exact Ok.out | with_reducible refine aE ?_ ?_ | (simp;done))))
 | cons y rest=>
  obtain⟨hP,g2,hF,g4⟩:=drop_cons h1
  have hY:acc.length<4611686018427387904:=by omega
  have fI:(acc.length+1)*57≤bI:=by simp only [bI];omega
  have hy:=hk y (List.mem_of_getElem? hP)
  repeat' (first
 | simp only [go_sem,hF,hP,hY,hZ,fI]
 | (with_reducible refine CU (hy _) ?_)
 | (with_reducible refine aH hQ ?_;simp only [az,aA,Option.some.injEq,exists_eq_left',go_sem,hF,hP,hY,hZ];repeat' (first | exact Ok.out | with_reducible refine aE ?_ ?_ | (simp;done))))
  refine cM 2 1 (IH (rest,acc.length+1,acc++ [y]) ⟨g2,by simp,by simp only [List.append_assoc,List.cons_append,List.nil_append];exact h3⟩ (Nat.lt_succ_self _))
theorem MF {x:Ex} (h:x.size<1073741824) (s:St):aD Tryz.prog kW [.agg (bp x)] s (.agg (bp x)) s:=
 (Xi x.size h x (Nat.le_refl _)).pure (by simp [D.bH,D.ok,gw]) (by simp [D.ok,gw]) s
end Go.Abs

/-! Tree2 -/

namespace Go.Abs
set_option maxRecDepth 8000
open Go.Proofs
abbrev SA (b:Bool) (N:Nat):Prop:=∀ l:List Sm,Sm.aY l<N→∀ n:Nat,n+Sm.aY l<1073741824→∀ s:St,
 aD Tryz.prog jn [.slice .shared 13 (l.map bc), .int .i64 (n:Int), .bool b] s (.tuple [.slice .shared 13 ((Sm.fM b n l).1.map bc), .int .i64 ((Sm.fM b n l).2:Int)]) s
theorem P2 {N:Nat} (ih:SA true N) (l:List Sm) (hl:Sm.aY l<N+1) (n:Nat) (hn:n+Sm.aY l<1073741824) :
 aD Tryz.prog jn [.slice .shared 13 (l.map bc), .int .i64 (n:Int), .bool true] S0 (.tuple [.slice .shared 13 ((Sm.fM true n l).1.map bc), .int .i64 ((Sm.fM true n l).2:Int)]) S0:=by
 unfold S0
 refine aD.go AL rfl fun B Q hB hQ=> ?_
 have⟨hF,hP,hY,hZ⟩:=bt
 repeat' (first
 | simp only [go_sem,hF,hP,hY,hZ]
 | (with_reducible refine aH hQ ?_;simp only [az,aA,Option.some.injEq,exists_eq_left',go_sem,hF,hP,hY,hZ];repeat' (first | exact Ok.out | with_reducible refine aE ?_ ?_ | (simp;done))))
 have hlen:l.length<1073741824:=by have:=Sm.dq l;omega
 refine bm.oD 8 13 rfl ?_
 simp only [go_sem,hF,hP,hY,hZ]
 refine cM 0 1 (bm.ind (ι:=List Sm×Nat×List Sm×Nat) (fun i=>l.drop i.2.1=i.1∧i.2.1=i.2.2.1.length∧Sm.fM true n l=(i.2.2.1++(Sm.fM true i.2.2.2 i.1).1,(Sm.fM true i.2.2.2 i.1).2)∧i.2.2.2+Sm.aY i.1≤n+Sm.aY l) (fun i=>i.1.length)
  (fun i=> [(1, .int .i64 (i.2.2.2:Int)),(2, .bool true),(8, .slice (.tok 0) 13 (i.2.2.1.map bc)),(14, .slice .shared 13 (l.map bc)),(15, .int .i64 (l.length:Int)),(16, .int .i64 (i.2.1:Int))])
  (fun i=>⟨[],[some i.2.1]⟩) ?_ (l,0,[],n) ⟨rfl,rfl,rfl,Nat.le_refl _⟩)
 rintro⟨rest,k,acc,m⟩ ⟨h1,h2,h3,h4⟩ IH
 dsimp only at h1 h2 h3 h4
 subst h2
 cases rest with
 | nil=>
  have hF:=drop_nil h1
  simp only [Sm.fM,List.append_nil]at h3
  rw [h3]at hQ
  repeat' (first
 | simp only [go_sem,hF,hP,hY,hZ]
 | (with_reducible refine aH hQ ?_;simp only [az,aA,Option.some.injEq,exists_eq_left',go_sem,hF,hP,hY,hZ];repeat' (first | exact Ok.out | with_reducible refine aE ?_ ?_ | (simp;done))))
 | cons y rest=>
  obtain⟨hP,g2,hF,g4⟩:=drop_cons h1
  simp only [Sm.aY]at h4 hl
  have hm:m<4611686018427387904:=by omega
  have hk:acc.length<4611686018427387904:=by omega
  have er:y.size≤N:=by have:=Sm.b9 (List.mem_of_getElem? hP);omega
  obtain⟨id,kind,labels,name,proc,x,has,args,a7,aW⟩:=y
  simp only [Sm.size]at er h4
  have fI:(acc.length+1)*209≤bI:=by simp only [bI];omega
  have hx:=fun s=>MF (x:=x) (by omega) s
  simp only [gf]at hx
  have wF:=fun g s=>tR (l:=labels) (by omega) g s
  have Ao:=Ar.dq args
  repeat' (first
 | simp only [go_sem,hF,hP,hY,hZ,aM hm]
 | (with_reducible refine CU (wF _ _) ?_)
 | (with_reducible refine CU (hx _) ?_)
 | (with_reducible refine aH hQ ?_;simp only [az,aA,Option.some.injEq,exists_eq_left',go_sem,hF,hP,hY,hZ];repeat' (first | exact Ok.out | with_reducible refine aE ?_ ?_ | (simp;done))))
  refine bm.sw 1 10 6 rfl rfl ?_
  simp only [go_sem,hF,hP,hY,hZ]
  refine cM 2 2 (bm.ind (ι:=List Ar×Nat×List Ar) (fun i=>args.drop i.2.1=i.1∧i.2.1=i.2.2.length∧i.2.2++i.1=args) (fun i=>i.1.length)
   (fun i=> [(1, .int .i64 ((m+1:Nat):Int)),(2, .bool true),(8, .slice (.tok 0) 13 (acc.map bc)),(10, .ptr 0 0),(11, .ptr 1 0),(14, .slice .shared 13 (l.map bc)),(15, .int .i64 (l.length:Int)),(16, .int .i64 (acc.length:Int)),
    (36, .slice .shared 6 (args.map dO)),(37, .int .i64 (args.length:Int)),(38, .int .i64 (i.2.1:Int))])
   (fun i=>⟨[bc ⟨id,kind,labels,name,proc,x,has,args,a7,aW⟩,[.int .i64 ((m+1:Nat):Int), .int .i64 kind, .slice .shared 1 (labels.map encStr), .str name, .str proc, .int .i64 x.op, .int .i64 x.n, .str x.name, .slice .shared 4 (x.kids.map bp), .bool has, .slice (.tok 1) 6 (i.2.2.map dO), .slice .shared 13 (a7.map bc), .slice .shared 13 (aW.map bc)]],[some acc.length,some i.2.1]⟩) ?_ (args,0,[]) ⟨rfl,rfl,rfl⟩)
  rintro⟨J7,ka,Cj⟩ ⟨j1,j2,j3⟩ IHa
  dsimp only at j1 j2 j3
  subst j2
  cases J7 with
  | nil=>
   have hF:=drop_nil j1
   rw [List.append_nil]at j3
   subst j3
   have b1:=Sm.sc true (m+1) a7
   have b2:=Sm.sc true (Sm.fM true (m+1) a7).2 aW
   have c1:=ih a7 (by omega) (m+1) (by omega)
   have c2:=ih aW (by omega) (Sm.fM true (m+1) a7).2 (by omega)
   repeat' (first
 | simp only [go_sem,hF,hP,hY,hZ,fI]
 | (with_reducible refine CU (c1 _) ?_)
 | (with_reducible refine CU (c2 _) ?_)
 | (with_reducible refine aH hQ ?_;simp only [az,aA,Option.some.injEq,exists_eq_left',go_sem,hF,hP,hY,hZ];repeat' (first | exact Ok.out | with_reducible refine aE ?_ ?_ | (simp;done))))
   refine eo 0 1 ?_ ?_ (IH (rest,acc.length+1,acc++ [(Sm.num true m ⟨id,kind,labels,name,proc,x,has,Cj,a7,aW⟩).1],(Sm.num true m ⟨id,kind,labels,name,proc,x,has,Cj,a7,aW⟩).2) ⟨g2,by simp,by rw [h3];simp [Sm.fM],by simp only [Sm.num];omega⟩ (Nat.lt_succ_self _))
   ·(simp only [go_sem,hF,hP,hY,hZ,aM hk,Sm.num];try exact bU)
   ·(simp only [go_sem,hF,hP,hY,hZ,aM hk,Sm.num];try exact bU)
  | cons a J7=>
   obtain⟨hP,g2,hF,g4⟩:=drop_cons j1
   have ha:a.x.size<1073741824:=by have:=Ar.b9 (List.mem_of_getElem? hP);omega
   have CC:Cj.length<4611686018427387904:=by omega
   have Xj:(Cj.length+1)*81≤bI:=by simp only [bI];omega
   have hxa:=fun s=>MF ha s
   simp only [gf]at hxa
   obtain⟨aiJ,aaH,ax⟩:=a
   repeat' (first
 | simp only [go_sem,hF,hP,hY,hZ,Xj]
 | (with_reducible refine CU (hxa _) ?_)
 | (with_reducible refine aH hQ ?_;simp only [az,aA,Option.some.injEq,exists_eq_left',go_sem,hF,hP,hY,hZ];repeat' (first | exact Ok.out | with_reducible refine aE ?_ ?_ | (simp;done))))
   refine eo 2 2 ?_ ?_ (IHa (J7,Cj.length+1,Cj++ [⟨aiJ,aaH,ax⟩]) ⟨g2,by simp,by simp only [List.append_assoc,List.cons_append,List.nil_append];exact j3⟩ (Nat.lt_succ_self _))
   ·(simp only [go_sem,hF,hP,hY,hZ,aM CC];try exact bU)
   ·(simp only [go_sem,hF,hP,hY,hZ,aM CC];try exact bU)
theorem Ue : ∀ N,SA true N:=by
 intro N
 induction N with
 | zero=>intro l hl;exact absurd hl (Nat.not_lt_zero _)
 | succ N ih=>
  intro l hl n hn s
  exact(P2 ih l hl n hn).pure (by simp [D.bH,D.ok,Tag.ok,mR]) (by simp [D.bH,D.ok,Tag.ok,mR]) s
theorem aaI {l:List Sm} {n:Nat} (h:n+Sm.aY l<1073741824) (s:St) :
 aD Tryz.prog jn [.slice .shared 13 (l.map bc), .int .i64 (n:Int), .bool true] s (.tuple [.slice .shared 13 ((Sm.fM true n l).1.map bc), .int .i64 ((Sm.fM true n l).2:Int)]) s:=
 Ue _ l (Nat.lt_succ_self _) n h s
theorem P3 {p:Pg} (hp:p.size<1073741824):aD Tryz.prog oy [.agg (cj p)] S0 (.agg (cj p.number)) S0:=by
 obtain⟨globals,procs⟩:=p
 simp only [Pg.size]at hp
 have hlen:procs.length<1073741824:=by have:=Pc.dq procs;omega
 have hcg:=fun g s=>tR (l:=globals) (by omega) g s
 unfold S0
 refine aD.go AG rfl fun B Q hB hQ=> ?_
 have⟨hF,hP,hY,hZ⟩:=bt
 repeat' (first
 | simp only [go_sem,hF,hP,hY,hZ]
 | (with_reducible refine CU (hcg _ _) ?_)
 | (with_reducible first | refine bB fun hc=> ?_ | refine bC fun hc=> ?_ | refine bD (fun hc=> ?_) fun hc=> ?_) <;> (try simp only [hc,bs, ↓reduceIte]at h) <;> try simp only [hc]
 | (with_reducible refine aH hQ ?_;simp only [az,aA,bx,bA,go_sem,hF,hP,hY,hZ];repeat' (first | exact Ok.out | with_reducible refine aE ?_ ?_ | (simp;done))))
 refine bm.sw 2 1 5 rfl rfl ?_
 simp only [go_sem,hF,hP,hY,hZ]
 refine cM 3 1 (bm.ind (ι:=List Pc×Nat×List Pc×Nat) (fun i=>procs.drop i.2.1=i.1∧i.2.1=i.2.2.1.length∧Pc.fM 0 procs=i.2.2.1++Pc.fM i.2.2.2 i.1∧i.2.2.2+Pc.aY i.1≤Pc.aY procs) (fun i=>i.1.length)
  (fun i=> [(2, .ptr 1 0),(3, .int .i64 (i.2.2.2:Int)),(4, .ptr 2 0),(13, .slice .shared 5 (procs.map cz)),(14, .int .i64 (procs.length:Int)),(15, .int .i64 (i.2.1:Int))])
  (fun i=>⟨[cj ⟨globals,procs⟩,cj Au,[.slice .shared 1 (globals.map encStr), .slice (.tok 0) 5 (i.2.2.1.map cz)]],[some i.2.1]⟩) ?_ (procs,0,[],0) ⟨rfl,rfl,rfl,by dsimp only;omega⟩)
 rintro⟨rest,k,acc,m⟩ ⟨h1,h2,h3,h4⟩ IH
 dsimp only at h1 h2 h3 h4
 subst h2
 cases rest with
 | nil=>
  have hF:=drop_nil h1
  simp only [Pc.fM,List.append_nil]at h3
  subst h3
  repeat' (first
 | simp only [go_sem,hF,hP,hY,hZ,Pg.number]
 | (with_reducible first | refine bB fun hc=> ?_ | refine bC fun hc=> ?_ | refine bD (fun hc=> ?_) fun hc=> ?_) <;> (try simp only [hc,bs, ↓reduceIte]at h) <;> try simp only [hc]
 | (with_reducible refine aH hQ ?_;simp only [az,aA,bx,bA,go_sem,hF,hP,hY,hZ,Pg.number];repeat' (first | exact Ok.out | with_reducible refine aE ?_ ?_ | (simp;done))))
 | cons y rest=>
  obtain⟨hP,g2,hF,g4⟩:=drop_cons h1
  simp only [Pc.aY]at h4
  have er:=Pc.b9 (List.mem_of_getElem? hP)
  obtain⟨name,params,vars,body,fin⟩:=y
  simp only [Pc.size]at er h4
  have hk:acc.length<4611686018427387904:=by omega
  have fI:(acc.length+1)*113≤bI:=by simp only [bI];omega
  have c1:=fun g s=>P0 (l:=params) (by omega) g s
  have c2:=fun g s=>tR (l:=vars) (by omega) g s
  have c3:=fun g s=>tR (l:=fin) (by omega) g s
  have c4:=fun s=>aaI (l:=body) (n:=m) (by omega) s
  have b1:=Sm.sc true m body
  repeat' (first
 | simp only [go_sem,hF,hP,hY,hZ,fI]
 | (with_reducible refine CU (c1 _ _) ?_)
 | (with_reducible refine CU (c2 _ _) ?_)
 | (with_reducible refine CU (c3 _ _) ?_)
 | (with_reducible refine CU (c4 _) ?_)
 | (with_reducible refine aH hQ ?_;simp only [az,aA,bx,bA,go_sem,hF,hP,hY,hZ];repeat' (first | exact Ok.out | with_reducible refine aE ?_ ?_ | (simp;done))))
  refine eo 3 1 ?_ ?_ (IH (rest,acc.length+1,acc++ [⟨name,params,vars,(Sm.fM true m body).1,fin⟩],(Sm.fM true m body).2) ⟨g2,by simp,by rw [h3];simp [Pc.fM],by dsimp only;omega⟩ (Nat.lt_succ_self _))
  ·(simp only [go_sem,hF,hP,hY,hZ,aM hk];try exact bU)
  ·(simp only [go_sem,hF,hP,hY,hZ,aM hk];try exact bU)
theorem P4 {p q:Pg} (h:p.BM=some q) (s:St):aD Tryz.prog oy [.agg (cj p)] s (.agg (cj q)) s:=by
 unfold Pg.BM at h
 split at h
 ·cases h;exact(P3 ‹_›).pure (by simp [D.bH,D.ok,iX]) (by simp [D.ok,iX]) s
 ·cases h
end Go.Abs

/-! Sc1 -/

namespace Go.Abs
set_option maxRecDepth 8000
open Go.Proofs
def aiK (x:aB):List aB→Bool
 | []=>false
 | s::l=>if x==s then true else aiK x l
def yX (pre:List aB):List aB→Bool
 | []=>false
 | s::l=>if eC pre s then true else yX (pre++ [s]) l
def fV (l:List aB):Bool:=yX [] l
theorem MG {l:List aB} {k:Nat} {a:aB} (h:l[k]? = some a):l.take (k+1)=l.take k++ [a]:=by rw [List.take_add_one,h];rfl
theorem zJ {l:List aB} (hl:l.length<4611686018427387904) (g:Tag) (s:St):aD Tryz.prog ml [.slice g 1 (l.map encStr)] s (.bool (fV l)) s:=by
 refine aD.Mn (d':= .slice .shared 1 (l.map encStr)) ?_ (Wk.shared _ _ _)
 refine aD.pure ?_ (by simp [D.bH,D.ok,Tag.ok,eH]) rfl s
 generalize h:fV l=p
 simp only [fV]at h
 unfold S0
 refine aD.go AB rfl fun B Q hB hQ=> ?_
 have⟨hF,hP,hY,hZ⟩:=bt
 repeat' (first
 | simp only [go_sem,hF,hP,hY,hZ]
 | (with_reducible first | refine bB fun hc=> ?_ | refine bC fun hc=> ?_ | refine bD (fun hc=> ?_) fun hc=> ?_) <;> (try simp only [hc,bs, ↓reduceIte]at h) <;> try simp only [hc]
 | (with_reducible refine aH hQ ?_;(try cases h);simp only [az,aA,bx,bA,go_sem,hF,hP,hY,hZ];repeat' (first | exact Ok.out | with_reducible refine aE ?_ ?_ | (simp;done))))
 refine cM 0 0 (bm.ind (ι:=List aB×Nat) (fun i=>l.drop i.2=i.1∧yX (l.take i.2) i.1=p) (fun i=>i.1.length)
  (fun i=> [(0, .slice .shared 1 (l.map encStr)),(5, .slice .shared 1 (l.map encStr)),(6, .int .i64 (l.length:Int)),(7, .int .i64 (i.2:Int))]) (fun i=>⟨[],[]⟩) ?_ (l,0) ⟨rfl,h⟩)
 rintro⟨rest,k⟩ ⟨h1,h⟩ IH
 dsimp only at h1 h
 cases rest with
 | nil=>
  have hF:=drop_nil h1
  simp only [yX]at h
  repeat' (first
 | simp only [go_sem,hF,hP,hY,hZ]
 | (with_reducible first | refine bB fun hc=> ?_ | refine bC fun hc=> ?_ | refine bD (fun hc=> ?_) fun hc=> ?_) <;> (try simp only [hc,bs, ↓reduceIte]at h) <;> try simp only [hc]
 | (with_reducible refine aH hQ ?_;(try cases h);simp only [az,aA,bx,bA,go_sem,hF,hP,hY,hZ];repeat' (first | exact Ok.out | with_reducible refine aE ?_ ?_ | (simp;done))))
 | cons a rest=>
  obtain⟨hP,g2,hF,g4⟩:=drop_cons h1
  have cb:k<4611686018427387904:=by omega
  simp only [yX]at h
  have hc:=ie (l:=l.take k) (by rw [List.length_take];omega) a
  have e1:List.drop 0 (List.take k (l.map encStr))=(l.take k).map encStr:=by simp [List.map_take]
  have c1:((0:Int)≤(k:Int))=True:=by simp
  have c2:((k:Int)≤(l.length:Int))=True:=by simp only [eq_iff_iff,iff_true];omega
  have e2:List.take k (l.map encStr)=(l.take k).map encStr:=by simp [List.map_take]
  repeat' (first
 | simp only [go_sem,hF,hP,hY,hZ,e1,e2,c1,c2,or_true,true_and,and_self,ite_self,Int.toNat_natCast,List.drop_zero]
 | (with_reducible refine CU (hc _ _) ?_)
 | (with_reducible first | refine bB fun hc=> ?_ | refine bC fun hc=> ?_ | refine bD (fun hc=> ?_) fun hc=> ?_) <;> (try simp only [hc,bs, ↓reduceIte]at h) <;> try simp only [hc]
 | (with_reducible refine aH hQ ?_;(try cases h);simp only [az,aA,bx,bA,go_sem,hF,hP,hY,hZ,e1,e2,c1,c2,or_true,true_and,and_self,ite_self,Int.toNat_natCast,List.drop_zero];repeat' (first | exact Ok.out | with_reducible refine aE ?_ ?_ | (simp;done))))
  refine eo 0 0 ?_ ?_ (IH (rest,k+1) ⟨g2,by dsimp only;rw [MG (by assumption)];exact h⟩ (Nat.lt_succ_self _))
  ·(simp only [go_sem,hF,hP,hY,hZ,aM cb];try exact bU)
  ·(simp only [go_sem,hF,hP,hY,hZ,aM cb];try exact bU)
end Go.Abs

/-! Sc2 -/

namespace Go.Abs
set_option maxRecDepth 8000
open Go.Proofs
def A6 (vars globals:List aB) (name:aB):List Pm→Int
 | []=>if eC vars name then 4 else if eC globals name then 1 else 0
 | a::l=>if a.name==name then(if a.ref then 3 else 2)else A6 vars globals name l
def Pc.lq (p:Pg) (f:Pc) (name:aB):Int:=A6 f.vars p.globals name f.params
theorem Fz {p:Pg} {f:Pc} (hp:f.params.length<1000000000) (hv:f.vars.length<1000000000) (hg:p.globals.length<1000000000) (name:aB) (s:St):aD Tryz.prog sD [.agg (cj p), .agg (cz f), .str name] s (.int .i64 (f.lq p name)) s:=by
 refine aD.pure ?_ (by simp [D.bH,D.ok,iX,xE]) rfl s
 have pP:=ie (l:=f.vars) (by omega) name
 have u5:=ie (l:=p.globals) (by omega) name
 generalize h:f.lq p name=q
 simp only [Pc.lq]at h
 unfold S0
 refine aD.go B5 rfl fun B Q hB hQ=> ?_
 have⟨hF,hP,hY,hZ⟩:=bt
 repeat' (first
 | simp only [go_sem,hF,hP,hY,hZ]
 | (with_reducible refine aH hQ ?_;simp only [az,aA,Option.some.injEq,exists_eq_left',go_sem,hF,hP,hY,hZ];repeat' (first | exact Ok.out | with_reducible refine aE ?_ ?_ | (simp;done))))
 refine cM 2 0 (bm.ind (ι:=List Pm×Nat) (fun i=>f.params.drop i.2=i.1∧A6 f.vars p.globals name i.1=q) (fun i=>i.1.length)
  (fun i=> [(2, .str name),(3, .ptr 0 0),(4, .ptr 1 0),(10, .slice .shared 2 (f.params.map fD)),(11, .int .i64 (f.params.length:Int)),(12, .int .i64 (i.2:Int))]) (fun i=>⟨[cj p,cz f],[]⟩) ?_ (f.params,0) ⟨rfl,h⟩)
 rintro⟨rest,k⟩ ⟨h1,h⟩ IH
 dsimp only at h1 h
 cases rest with
 | nil=>
  have hF:=drop_nil h1
  simp only [A6]at h
  rcases Bool.eq_false_or_eq_true (eC f.vars name)with b1 | b1
  ·simp only [b1,if_true]at h
   subst h
   repeat' (first
 | simp only [go_sem,hF,hP,hY,hZ,b1]
 | (with_reducible refine CU (pP _ _) ?_)
 | (with_reducible refine CU (u5 _ _) ?_)
 | (with_reducible refine aH hQ ?_;simp only [az,aA,Option.some.injEq,exists_eq_left',go_sem,hF,hP,hY,hZ];repeat' (first | exact Ok.out | with_reducible refine aE ?_ ?_ | (simp;done))))
  ·simp only [b1,Bool.false_eq_true,if_false]at h
   rcases Bool.eq_false_or_eq_true (eC p.globals name)with b2 | b2
   ·simp only [b2,if_true]at h
    subst h
    repeat' (first
 | simp only [go_sem,hF,hP,hY,hZ,b1,b2]
 | (with_reducible refine CU (pP _ _) ?_)
 | (with_reducible refine CU (u5 _ _) ?_)
 | (with_reducible refine aH hQ ?_;simp only [az,aA,Option.some.injEq,exists_eq_left',go_sem,hF,hP,hY,hZ];repeat' (first | exact Ok.out | with_reducible refine aE ?_ ?_ | (simp;done))))
   ·simp only [b2,Bool.false_eq_true,if_false]at h
    subst h
    repeat' (first
 | simp only [go_sem,hF,hP,hY,hZ,b1,b2]
 | (with_reducible refine CU (pP _ _) ?_)
 | (with_reducible refine CU (u5 _ _) ?_)
 | (with_reducible refine aH hQ ?_;simp only [az,aA,Option.some.injEq,exists_eq_left',go_sem,hF,hP,hY,hZ];repeat' (first | exact Ok.out | with_reducible refine aE ?_ ?_ | (simp;done))))
 | cons a rest=>
  obtain⟨hP,g2,hF,g4⟩:=drop_cons h1
  have cb:k<4611686018427387904:=by omega
  simp only [A6]at h
  rcases Bool.eq_false_or_eq_true (a.name==name)with b1 | b1
  ·simp only [b1,if_true]at h
   rcases Bool.eq_false_or_eq_true a.ref with b2 | b2
   ·simp only [b2,if_true]at h
    subst h
    repeat' (first
 | simp only [go_sem,hF,hP,hY,hZ,b1,b2]
 | (with_reducible refine aH hQ ?_;simp only [az,aA,Option.some.injEq,exists_eq_left',go_sem,hF,hP,hY,hZ];repeat' (first | exact Ok.out | with_reducible refine aE ?_ ?_ | (simp;done))))
   ·simp only [b2,Bool.false_eq_true,if_false]at h
    subst h
    repeat' (first
 | simp only [go_sem,hF,hP,hY,hZ,b1,b2]
 | (with_reducible refine aH hQ ?_;simp only [az,aA,Option.some.injEq,exists_eq_left',go_sem,hF,hP,hY,hZ];repeat' (first | exact Ok.out | with_reducible refine aE ?_ ?_ | (simp;done))))
  ·simp only [b1,Bool.false_eq_true,if_false]at h
   repeat' (first
 | simp only [go_sem,hF,hP,hY,hZ,b1]
 | (with_reducible refine aH hQ ?_;simp only [az,aA,Option.some.injEq,exists_eq_left',go_sem,hF,hP,hY,hZ];repeat' (first | exact Ok.out | with_reducible refine aE ?_ ?_ | (simp;done))))
   refine eo 2 0 ?_ ?_ (IH (rest,k+1) ⟨g2,h⟩ (Nat.lt_succ_self _))
   ·(simp only [go_sem,hF,hP,hY,hZ,aM cb];try exact bU)
   ·(simp only [go_sem,hF,hP,hY,hZ,aM cb];try exact bU)
def jG (name:aB):List Pc→Option Pc
 | []=>none
 | f::l=>if f.name==name then some f else jG name l
def Pg.find (p:Pg) (name:aB):Option Pc:=jG name p.procs
def pc0:Pc:=⟨[],[],[],[],[]⟩
def ajk (r:Option Pc):D:= .tuple [.agg (cz (r.getD pc0)), .bool r.isSome]
end Go.Abs

/-! Sc3 -/

namespace Go.Abs
set_option maxRecDepth 8000
open Go.Proofs
def Pc.A7 (f:Pc):List aB:=f.params.map (·.name)
def Pc.own (f:Pc):List aB:=f.A7++f.vars
theorem aaJ {f:Pc} (hp:f.params.length<1000000) (hv:f.vars.length<1000000) (s:St):aD Tryz.prog uy [.agg (cz f)] s (.slice .shared 1 (f.own.map encStr)) s:=by
 refine aD.pure ?_ (by simp [D.bH,D.ok,xE]) (by simp only [D.ok,Tag.ok,eH];rfl) s
 generalize hR:f.own=R
 simp only [Pc.own]at hR
 unfold S0
 refine aD.go DC rfl fun B Q hB hQ=> ?_
 have⟨hF,hP,hY,hZ⟩:=bt
 repeat' (first
 | simp only [go_sem,hF,hP,hY,hZ]
 | (with_reducible refine aH hQ ?_;simp only [az,aA,Option.some.injEq,exists_eq_left',go_sem,hF,hP,hY,hZ];repeat' (first | exact Ok.out | with_reducible refine aE ?_ ?_ | (simp;done))))
 refine bm.oD 3 1 rfl ?_
 simp only [go_sem,hF,hP,hY,hZ]
 refine cM 1 1 (bm.ind (ι:=List Pm×Nat×List aB×Nat) (fun i=>f.params.drop i.2.1=i.1∧i.2.2.1++i.1.map (·.name)=f.A7∧i.2.2.2=i.2.2.1.length) (fun i=>i.1.length)
  (fun i=> [(1, .ptr 0 0),(3, .slice (.tok 0) 1 (i.2.2.1.map encStr)),(7, .slice .shared 2 (f.params.map fD)),(8, .int .i64 (f.params.length:Int)),(9, .int .i64 (i.2.1:Int))]) (fun i=>⟨[cz f],[some i.2.2.2]⟩) ?_ (f.params,0,[],0) ⟨rfl,rfl,rfl⟩)
 rintro⟨rest,k,out,n⟩ ⟨h1,h2,h3⟩ IH
 dsimp only at h1 h2 h3
 subst h3
 have hlo:out.length+rest.length<1000000:=by
  have:=congrArg List.length h2
  simp only [List.length_append,List.length_map,Pc.A7]at this
  omega
 cases rest with
 | nil=>
  have hF:=drop_nil h1
  simp only [List.map_nil,List.append_nil]at h2
  subst hR
  rw [← h2]at hQ
  have fQ:=jr (l:=out) (nx:=f.vars) rfl (by omega) (g:= .shared)
  repeat' (first
 | simp only [go_sem,hF,hP,hY,hZ,fQ]
 | (with_reducible refine aH hQ ?_;simp only [az,aA,Option.some.injEq,exists_eq_left',go_sem,hF,hP,hY,hZ];repeat' (first | exact Ok.out | with_reducible refine aE ?_ ?_ | (simp;done))))
 | cons a rest=>
  obtain⟨hP,g2,hF,g4⟩:=drop_cons h1
  have cb:k<4611686018427387904:=by omega
  have hY:(out.length+1)*17≤bI:=by unfold bI;omega
  repeat' (first
 | simp only [go_sem,hF,hP,hY,hZ]
 | (with_reducible refine aH hQ ?_;simp only [az,aA,Option.some.injEq,exists_eq_left',go_sem,hF,hP,hY,hZ];repeat' (first | exact Ok.out | with_reducible refine aE ?_ ?_ | (simp;done))))
  refine eo 1 1 ?_ ?_ (IH (rest,k+1,out++ [a.name],out.length+1) ⟨g2,by rw [← h2];simp,by simp⟩ (Nat.lt_succ_self _))
  ·(simp only [go_sem,hF,hP,hY,hZ,aM cb,List.map_append,List.map_cons,List.map_nil,encStr];try exact bU)
  ·(simp only [go_sem,hF,hP,hY,hZ,aM cb,List.map_append,List.map_cons,List.map_nil,encStr];try exact bU)
def pA:aB:= [109,97,105,110]
def Sm.known (p:Pg) (f:Pc) (procs:List aB) (v:Sm):Bool:=
 !(v.said.any fun n=>f.lq p n==0) && (v.kind != 4 || (v.proc != pA && eC procs v.proc))
structure Pc.Small (p:Pg) (f:Pc):Prop where
 par:f.params.length<1000000
 vars:f.vars.length<1000000
 Fs:p.globals.length<1000000
def yu (p:Pg) (f:Pc):List aB→Bool
 | []=>true
 | n::l=>if f.lq p n==0 then false else yu p f l
theorem C3 (p:Pg) (f:Pc) : ∀ l,yu p f l = !(l.any fun n=>f.lq p n==0)
 | []=>rfl
 | n::l=>by
  simp only [yu,List.any_cons,C3 p f l]
  cases (f.lq p n==0) <;> simp
theorem FA (v:Sm) (h:v.om):v.said.length<3000000:=by
 have : ∀ (l:List Ar) (out:List aB),(Ar.said out l).length≤out.length+2*Ar.aY l:=by
  intro l
  induction l with
  | nil=>intro out;simp [Ar.said]
  | cons a l ih=>
   intro out
   simp only [Ar.said,Ar.aY]
   refine Nat.le_trans (ih _) ?_
   have:=jN a.x
   have:1≤a.x.size:=by obtain⟨_,_,_,_⟩:=a.x;simp [Ex.size]
   simp only [List.length_append]
   split <;> simp <;> omega
 have h1:=this v.args (v.rS++v.x.names)
 have h2:=jN v.x
 have h3:=h.2.2
 have h4:v.rS.length≤1:=by unfold Sm.rS;split <;> simp
 simp only [List.length_append]at h1
 unfold Sm.said
 omega
theorem Uf {p:Pg} {f:Pc} {procs:List aB} {v:Sm} (hs:f.Small p) (yY:procs.length<1000000) (hv:v.om) (s:St):aD Tryz.prog ox [.agg (cj p), .agg (cz f), .slice .shared 1 (procs.map encStr), .agg (bc v)] s (.bool (v.known p f procs)) s:=by
 refine aD.pure ?_ (by simp [D.bH,D.ok,iX,xE,mE,Tag.ok,eH]) rfl s
 have hn:=fun s=>xU hv s
 have hk:=fun n s=>Fz (p:=p) (f:=f) (by have:=hs.par;omega) (by have:=hs.vars;omega) (by have:=hs.Fs;omega) n s
 have Xk:=ie (l:=procs) (by omega) v.proc
 have hl:=FA v hv
 generalize h:v.known p f procs=q
 simp only [Sm.known, ← C3]at h
 unfold S0
 refine aD.go AE rfl fun B Q hB hQ=> ?_
 have⟨hF,hP,hY,hZ⟩:=bt
 repeat' (first
 | simp only [go_sem,hF,hP,hY,hZ]
 | (with_reducible refine CU (hn _) ?_)
 | (with_reducible refine aH hQ ?_;simp only [az,aA,Option.some.injEq,exists_eq_left',go_sem,hF,hP,hY,hZ];repeat' (first | exact Ok.out | with_reducible refine aE ?_ ?_ | (simp;done))))
 refine cM 3 0 (bm.ind (ι:=List aB×Nat) (fun i=>v.said.drop i.2=i.1∧(yu p f i.1 && (v.kind != 4 || (v.proc != pA && eC procs v.proc)))=q) (fun i=>i.1.length)
  (fun i=> [(2, .slice .shared 1 (procs.map encStr)),(4, .ptr 0 0),(5, .ptr 1 0),(7, .ptr 2 0),(12, .slice .shared 1 (v.said.map encStr)),(13, .int .i64 (v.said.length:Int)),(14, .int .i64 (i.2:Int))]) (fun i=>⟨[cj p,cz f,bc v],[]⟩) ?_ (v.said,0) ⟨rfl,h⟩)
 rintro⟨rest,k⟩ ⟨h1,h⟩ IH
 dsimp only at h1 h
 cases rest with
 | nil=>
  have hF:=drop_nil h1
  simp only [yu,Bool.true_and]at h
  rcases Bool.eq_false_or_eq_true (v.kind != 4)with b1 | b1
  ·simp only [b1,Bool.true_or]at h
   subst h
   repeat' (first
 | simp only [go_sem,hF,hP,hY,hZ,b1]
 | (with_reducible refine aH hQ ?_;simp only [az,aA,Option.some.injEq,exists_eq_left',go_sem,hF,hP,hY,hZ];repeat' (first | exact Ok.out | with_reducible refine aE ?_ ?_ | (simp;done))))
  ·simp only [b1,Bool.false_or]at h
   rcases Bool.eq_false_or_eq_true (v.proc != pA)with b2 | b2
   ·simp only [b2,Bool.true_and]at h
    unfold pA at b2
    have b3:(v.proc == [109,97,105,110]) = !(v.proc != [109,97,105,110]):=by simp only [bne,Bool.not_not]
    rw [b2]at b3
    simp only [Bool.not_true,Bool.not_false]at b3
    subst h
    repeat' (first
 | simp only [go_sem,hF,hP,hY,hZ,b1,b2,b3]
 | (with_reducible refine CU (Xk _ _) ?_)
 | (with_reducible refine aH hQ ?_;simp only [az,aA,Option.some.injEq,exists_eq_left',go_sem,hF,hP,hY,hZ];repeat' (first | exact Ok.out | with_reducible refine aE ?_ ?_ | (simp;done))))
   ·simp only [b2,Bool.false_and]at h
    unfold pA at b2
    have b3:(v.proc == [109,97,105,110]) = !(v.proc != [109,97,105,110]):=by simp only [bne,Bool.not_not]
    rw [b2]at b3
    simp only [Bool.not_true,Bool.not_false]at b3
    subst h
    repeat' (first
 | simp only [go_sem,hF,hP,hY,hZ,b1,b2,b3]
 | (with_reducible refine CU (Xk _ _) ?_)
 | (with_reducible refine aH hQ ?_;simp only [az,aA,Option.some.injEq,exists_eq_left',go_sem,hF,hP,hY,hZ];repeat' (first | exact Ok.out | with_reducible refine aE ?_ ?_ | (simp;done))))
 | cons a rest=>
  obtain⟨hP,g2,hF,g4⟩:=drop_cons h1
  have cb:k<4611686018427387904:=by omega
  simp only [yu]at h
  rcases Bool.eq_false_or_eq_true (f.lq p a==0)with b1 | b1
  ·simp only [b1,if_true,Bool.false_and]at h
   subst h
   repeat' (first
 | simp only [go_sem,hF,hP,hY,hZ,b1]
 | (with_reducible refine CU (hk _ _) ?_)
 | (with_reducible refine aH hQ ?_;simp only [az,aA,Option.some.injEq,exists_eq_left',go_sem,hF,hP,hY,hZ];repeat' (first | exact Ok.out | with_reducible refine aE ?_ ?_ | (simp;done))))
  ·simp only [b1,Bool.false_eq_true,if_false]at h
   repeat' (first
 | simp only [go_sem,hF,hP,hY,hZ,b1]
 | (with_reducible refine CU (hk _ _) ?_)
 | (with_reducible refine aH hQ ?_;simp only [az,aA,Option.some.injEq,exists_eq_left',go_sem,hF,hP,hY,hZ];repeat' (first | exact Ok.out | with_reducible refine aE ?_ ?_ | (simp;done))))
   refine eo 3 0 ?_ ?_ (IH (rest,k+1) ⟨g2,h⟩ (Nat.lt_succ_self _))
   ·(simp only [go_sem,hF,hP,hY,hZ,aM cb];try exact bU)
   ·(simp only [go_sem,hF,hP,hY,hZ,aM cb];try exact bU)
end Go.Abs

/-! ScP -/

namespace Go.Abs
theorem Hw : ∀ (l pre:List aB),yX pre l=true↔(∃ x∈l,x∈pre)∨¬ l.Nodup
 | [],pre=>by simp [yX]
 | s::l,pre=>by
  simp only [yX]
  by_cases h:eC pre s=true
  ·simp only [h,if_true,true_iff]
   exact .inl ⟨s,List.mem_cons_self,(iN _ _).1 h⟩
  ·have h':s∉pre:=fun m=>h ((iN _ _).2 m)
   simp only [h,if_false,Bool.false_eq_true]
   rw [Hw l (pre++ [s])]
   simp only [List.mem_append,List.mem_singleton,List.mem_cons,List.nodup_cons,exists_eq_or_imp]
   constructor
   ·rintro(⟨x,m,h1 | h1⟩ | h1)
    ·exact .inl (.inr ⟨x,m,h1⟩)
    ·have h1:x=s:=by simpa using h1
     subst h1;exact .inr fun h=>h.1 m
    ·exact .inr fun h=>h1 h.2
   ·rintro((h1 | ⟨x,m,h1⟩) | h1)
    ·exact absurd h1 h'
    ·exact .inl ⟨x,m, .inl h1⟩
    ·by_cases m:s∈l
     ·exact .inl ⟨s,m, .inr (.inl rfl)⟩
     ·exact .inr fun h=>h1 ⟨m,h⟩
theorem C4 (l:List aB):fV l=true↔¬ l.Nodup:=by
 unfold fV;rw [Hw];simp
theorem MH (a b:List aB):fV (a++b)=(fV a || (fV b || b.any (eC a))):=by
 have h:fV (a++b)=true↔(fV a || (fV b || b.any (eC a)))=true:=by
  rw [C4,List.nodup_append]
  simp only [Bool.or_eq_true,C4,List.any_eq_true,iN]
  constructor
  ·intro h
   by_cases ha:a.Nodup
   ·by_cases hb:b.Nodup
    ·refine .inr (.inr (Classical.byContradiction fun hn=>h ⟨ha,hb,fun x hx y hy e=>hn ⟨y,hy,e ▸ hx⟩⟩))
    ·exact .inr (.inl hb)
   ·exact .inl ha
  ·rintro(h | h | ⟨x,h1,h2⟩) ⟨h3,h4,h5⟩
   ·exact h h3
   ·exact h h4
   ·exact h5 x h2 x h1 rfl
 cases h1:fV (a++b) <;> cases h2:(fV a || (fV b || b.any (eC a))) <;> simp_all
theorem FB (name:aB) : ∀ (l:List Pc) (k:Nat),(jG name l=none∧mK name (k:Int) (l.map (·.name)) = -1)∨∃ f j,jG name l=some f∧l[j]? = some f∧mK name (k:Int) (l.map (·.name))=((k+j:Nat):Int)
 | [],k=> .inl ⟨rfl,rfl⟩
 | f::l,k=>by
  by_cases h:f.name=name
  ·subst h
   refine .inr ⟨f,0,by simp [jG],rfl,by simp [mK]⟩
  ·have h1:(f.name==name)=false:=by simp [h]
   have h2:(name==f.name)=false:=by simp [Ne.symm h]
   simp only [jG,h1,Bool.false_eq_true,if_false,List.map_cons,mK,h2]
   rcases FB name l (k+1)with ⟨g1,g2⟩ | ⟨g,j,g1,g2,g3⟩
   ·exact .inl ⟨g1,by rw [← g2];rfl⟩
   ·refine .inr ⟨g,j+1,g1,by simpa using g2, ?_⟩
    rw [show((k:Int)+1)=((k+1:Nat):Int)from rfl,g3]
    congr 1;omega
theorem qg {name:aB} {f:Pc} : ∀ {l:List Pc},jG name l=some f→f∈l∧f.name=name
 | g::l,h=>by
  simp only [jG]at h
  split at h
  ·rename_i e;cases h;exact⟨List.mem_cons_self,by simpa using e⟩
  ·have:=qg h;exact⟨List.mem_cons_of_mem _ this.1,this.2⟩
mutual
theorem MI (deep bZ:Int) (aW:Bool) (out:List It) : ∀ s:Sm,∃ e,iR deep bZ aW out s=out++e
 | ⟨id,kind,labels,name,proc,x,has,args,a7,e⟩=>by
  simp only [iR]
  split
  ·obtain⟨e1,h1⟩:=qV (deep+1) id false (out++ [⟨⟨id,kind,labels,name,proc,x,has,args,a7,e⟩,deep,bZ,aW⟩]) a7
   obtain⟨e2,h2⟩:=qV (deep+1) id true (fq (deep+1) id false (out++ [⟨⟨id,kind,labels,name,proc,x,has,args,a7,e⟩,deep,bZ,aW⟩]) a7) e
   rw [h2,h1]
   exact⟨_,by rw [List.append_assoc,List.append_assoc]⟩
  ·exact⟨_,rfl⟩
theorem qV (deep bZ:Int) (aW:Bool) (out:List It) : ∀ l:List Sm,∃ e,fq deep bZ aW out l=out++e
 | []=>⟨[],by simp [fq]⟩
 | s::l=>by
  simp only [fq]
  split
  ·obtain⟨e1,h1⟩:=MI deep bZ aW out s
   obtain⟨e2,h2⟩:=qV deep bZ aW (iR deep bZ aW out s) l
   rw [h2,h1]
   exact⟨_,by rw [List.append_assoc]⟩
  ·exact⟨[],by simp⟩
end
mutual
theorem MJ (deep bZ:Int) (aW:Bool) (out:List It) : ∀ s:Sm,(iR deep bZ aW out s).length≤200→(∀ i∈iR deep bZ aW out s,i.deep≤12)→(iR deep bZ aW out s).map It.s=out.map It.s++s.pre
 | ⟨id,kind,labels,name,proc,x,has,args,a7,e⟩,h1,h2=>by
  simp only [iR,Sm.pre]at h1 h2 ⊢
  by_cases hd:deep≤12
  ·simp only [hd,decide_true,if_true]at h1 h2 ⊢
   obtain⟨e2,g2⟩:=qV (deep+1) id true (fq (deep+1) id false (out++ [⟨⟨id,kind,labels,name,proc,x,has,args,a7,e⟩,deep,bZ,aW⟩]) a7) e
   have k1:(fq (deep+1) id false (out++ [⟨⟨id,kind,labels,name,proc,x,has,args,a7,e⟩,deep,bZ,aW⟩]) a7).length≤200:=by
    rw [g2,List.length_append]at h1;omega
   have k2 : ∀ i∈fq (deep+1) id false (out++ [⟨⟨id,kind,labels,name,proc,x,has,args,a7,e⟩,deep,bZ,aW⟩]) a7,i.deep≤12:=fun i m=>h2 i (by rw [g2];exact List.mem_append_left _ m)
   rw [tT (deep+1) id true _ e h1 h2,tT (deep+1) id false _ a7 k1 k2]
   simp
  ·simp only [hd,decide_false,Bool.false_eq_true,if_false]at h1 h2
   exact absurd (h2 _ (List.mem_append_right _ (List.mem_singleton.2 rfl))) (by simpa using hd)
theorem tT (deep bZ:Int) (aW:Bool) (out:List It) : ∀ l:List Sm,(fq deep bZ aW out l).length≤200→(∀ i∈fq deep bZ aW out l,i.deep≤12)→(fq deep bZ aW out l).map It.s=out.map It.s++Sm.dG l
 | [],h1,h2=>by simp [fq,Sm.dG]
 | s::l,h1,h2=>by
  simp only [fq,Sm.dG]at h1 h2 ⊢
  by_cases hc:(out.length:Int)≤200
  ·simp only [hc,decide_true,if_true]at h1 h2 ⊢
   obtain⟨e2,g2⟩:=qV deep bZ aW (iR deep bZ aW out s) l
   have k1:(iR deep bZ aW out s).length≤200:=by rw [g2,List.length_append]at h1;omega
   have k2 : ∀ i∈iR deep bZ aW out s,i.deep≤12:=fun i m=>h2 i (by rw [g2];exact List.mem_append_left _ m)
   rw [tT deep bZ aW _ l h1 h2,MJ deep bZ aW out s k1 k2]
   simp
  ·simp only [hc,decide_false,Bool.false_eq_true,if_false]at h1
   omega
end
theorem FC : ∀ (l:List Pc) (out:List It),(allM out l).length≤200→(∀ i∈allM out l,i.deep≤12)→(∀ f∈l,f.flat.map It.s=Sm.dG f.body)∧(allM out l).map It.s=out.map It.s++(l.map fun f=>Sm.dG f.body).flatten
 | [],out,h1,h2=>⟨fun f m=>(by cases m),by simp [allM]⟩
 | f::l,out,h1,h2=>by
  simp only [allM]at h1 h2 ⊢
  by_cases hc:(((out++f.flat).length:Nat):Int) > 200
  ·simp only [hc,decide_true,if_true]at h1;omega
  ·simp only [hc,decide_false,Bool.false_eq_true,if_false]at h1 h2 ⊢
   obtain⟨k1,k2⟩:=FC l (out++f.flat) h1 h2
   have uL : ∀ (l:List Pc) (out:List It),∃ e,allM out l=out++e:=by
    intro l
    induction l with
    | nil=>intro out;exact⟨[],by simp [allM]⟩
    | cons g l ih=>
     intro out
     simp only [allM]
     split
     ·exact⟨_,rfl⟩
     ·obtain⟨e,h⟩:=ih (out++g.flat);exact⟨g.flat++e,by rw [h];simp⟩
   obtain⟨e,he⟩:=uL l (out++f.flat)
   have k3:f.flat.map It.s=Sm.dG f.body:=by
    have:=tT 1 0 false [] f.body (by
     have:f.flat.length≤200:=by simp only [List.length_append]at hc;omega
     exact this) (fun i m=>h2 i (by rw [he];exact List.mem_append_left _ (List.mem_append_right _ m)))
    simpa [Pc.flat]using this
   refine⟨fun g m=> ?_, ?_⟩
   ·rcases List.mem_cons.1 m with rfl | m
    ·exact k3
    ·exact k1 g m
   ·rw [k2];simp [k3]
theorem xX : ∀ (l:List It) (n:Nat),It.eB n l=true→(∀ i∈l,i.deep≤12)∧∀ (j:Nat) (i:It),l[j]? = some i→i.s.id=((n+j+1:Nat):Int)
 | [],n,h=>⟨fun i m=>(by cases m),fun j i h=>by simp at h⟩
 | a::l,n,h=>by
  simp only [It.eB]at h
  split at h
  ·cases h
  ·rename_i c
   simp only [Bool.or_eq_true,not_or,bne_iff_ne,ne_eq,Decidable.not_not,decide_eq_true_eq,Int.not_lt,gt_iff_lt]at c
   obtain⟨k1,k2⟩:=xX l (n+1) h
   refine⟨fun i m=> ?_,fun j i hj=> ?_⟩
   ·rcases List.mem_cons.1 m with rfl | m
    ·exact c.1.2
    ·exact k1 i m
   ·cases j with
    | zero=>simp at hj;subst hj;rw [c.1.1]
    | succ j=>simp at hj;rw [k2 j i hj];congr 1;omega
theorem Hx {p:Pg} (h:p.may=true):p.all.length≤200∧It.eB 0 p.all=true:=by
 unfold Pg.may at h
 split at h
 ·cases h
 ·split at h
  ·cases h
  ·split at h
   ·cases h
   ·rename_i c
    exact⟨by simp only [decide_eq_true_eq,Int.not_lt,gt_iff_lt]at c;omega,h⟩
theorem P5 {p:Pg} (h:p.may=true):(∀ f∈p.procs,f.flat.map It.s=Sm.dG f.body)∧p.all.map It.s=p.pre:=by
 obtain⟨h1,h2⟩:=Hx h
 have:=FC p.procs [] h1 (xX _ 0 h2).1
 simpa [Pg.pre,Pg.all]using this
theorem Xl {p:Pg} (h:p.may=true) {i:Nat} {v:Sm} (hv:p.pre[i]? = some v):v.id=((i+1:Nat):Int):=by
 rw [← (P5 h).2,List.getElem?_map,Option.map_eq_some_iff]at hv
 obtain⟨it,h1,rfl⟩:=hv
 have:=(xX _ 0 (Hx h).2).2 i it h1
 rw [this];congr 1;omega
end Go.Abs

/-! Sc4 -/

namespace Go.Abs
set_option maxRecDepth 8000
open Go.Proofs
structure Pg.jO (p:Pg):Prop where
 P6:p.D9
 sz:p.size≤900000
mutual
theorem Xm : ∀ s:Sm,s.tL→s.size<1000000→∀ v∈s.pre,v.om∧v.lI
 | ⟨id,kind,labels,name,proc,x,has,args,a7,aW⟩,h,hs,v,m=>by
  simp only [Sm.tL]at h
  simp only [Sm.size]at hs
  simp only [Sm.pre,List.mem_cons,List.mem_append]at m
  rcases m with rfl | m | m
  ·exact⟨⟨h.1.xt,fun a ha=>(h.1.arg a ha).2.1,by dsimp only;omega⟩,h.1⟩
  ·exact yv a7 h.2.1 (by omega) v m
  ·exact yv aW h.2.2 (by omega) v m
theorem yv : ∀ l:List Sm,Sm.jc l→Sm.aY l<1000000→∀ v∈Sm.dG l,v.om∧v.lI
 | [],h,hs,v,m=>by simp [Sm.dG]at m
 | s::l,h,hs,v,m=>by
  simp only [Sm.jc]at h
  simp only [Sm.aY]at hs
  simp only [Sm.dG,List.mem_append]at m
  rcases m with m | m
  ·exact Xm s h.1 (by omega) v m
  ·exact yv l h.2 (by omega) v m
end
theorem Pg.jO.said {p:Pg} (h:p.jO) {f:Pc} (hf:f∈p.procs) : ∀ v∈Sm.dG f.body,v.om:=fun v m=>by
 have h1:=Pc.b9 hf
 have h2:=h.sz
 simp only [Pg.size]at h2
 simp only [Pc.size]at h1
 exact(yv f.body (h.P6.body f hf) (by omega) v m).1
theorem Pg.jO.small {p:Pg} (h:p.jO) {f:Pc} (hf:f∈p.procs):f.Small p:=by
 have h1:=Pc.b9 hf
 have h2:=h.sz
 simp only [Pg.size]at h2
 simp only [Pc.size]at h1
 exact⟨by omega,by omega,by omega⟩
theorem Pg.jO.procs {p:Pg} (h:p.jO):p.procs.length≤900000∧Pc.aY p.procs≤900000∧p.globals.length≤900000:=by
 have h2:=h.sz
 have h3:=Pc.dq p.procs
 simp only [Pg.size]at h2
 omega
def Pg.pn (p:Pg):List aB:=p.procs.map (·.name)
def xY (p:Pg) (f:Pc) (procs:List aB):List Sm→Option Sm
 | []=>none
 | v::l=>if v.known p f procs then xY p f procs l else some v
def sT (p:Pg) (procs:List aB):List Pc→Int×Int
 | []=>(0,0)
 | f::l=>if fV (p.globals++f.own)then(5,0)else match xY p f procs (Sm.dG f.body)with | some v=>(5,v.id) | none=>sT p procs l
def Pg.vw (p:Pg):Bool:=match p.find pA with | none=>true | some m=>decide ((m.params.length:Int) > 0)
def Pg.scope (p:Pg):Int×Int:=
 if p.may then if fV p.globals || (fV p.pn || p.vw)then(5,0)else sT p p.pn p.procs else(1,0)
theorem P7 (p:Pg) (hl:p.globals.length<1000000) (n:aB):aD Tryz.prog mS ([.str n]++ [.ptr 0 0]) ⟨[cj p],[]⟩ (.bool (eC p.globals n)) ⟨[cj p],[]⟩:=by
 show aD Tryz.prog mS [.str n, .ptr 0 0] _ _ _
 have rp:=ie (l:=p.globals) (by omega) n
 refine aD.go yD rfl fun B Q hB hQ=> ?_
 have⟨hF,hP,hY,hZ⟩:=bt
 repeat' (first
 | simp only [go_sem,hF,hP,hY,hZ]
 | (with_reducible refine CU (rp _ _) ?_)
 | (with_reducible refine aH hQ ?_;simp only [az,aA,Option.some.injEq,exists_eq_left',go_sem,hF,hP,hY,hZ];repeat' (first | exact Ok.out | with_reducible refine aE ?_ ?_ | (simp;done))))
theorem aaK (n m:Nat) (p:Pg):D.gq n m (gC p)=gC p:=gI n m _ (wa p)
attribute [go_sem] aaK
theorem Ug {p:Pg} {f:Pc} {procs:List aB} {v:Sm} (hs:f.Small p) (yY:procs.length<1000000) (hv:v.om) (g:Tag) (s:St):aD Tryz.prog ox [.agg (cj p), .agg (cz f), .slice g 1 (procs.map encStr), .agg (bc v)] s (.bool (v.known p f procs)) s:=
 dT.zr (.cons (Wk.refl _) (.cons (Wk.refl _) (.cons (Wk.shared g 1 _) (lu.refl _)))) (Uf hs yY hv s)
theorem qh {p:Pg} (h:p.jO) (s:St):aD Tryz.prog iy [.agg (cj p)] s (.agg [.int .i64 p.scope.1, .int .i64 p.scope.2]) s:=by
 refine aD.pure ?_ (by simp [D.bH,D.ok,iX]) rfl s
 have hm:=fun s=>Ft h.P6 s
 simp only [yr]at hm
 obtain⟨sj,rC,wP⟩:=h.procs
 have dN:=fun s=>AT (p:=p) (by omega) s
 have nT:=fun s=>zJ (l:=p.globals) (by omega) .shared s
 have hpn:p.pn.length=p.procs.length:=by simp [Pg.pn]
 have Ag:=fun g s=>zJ (l:=p.pn) (by omega) g s
 have hix:=fun g s=>(Hs (l:=p.pn) (by omega) pA s).Mn (Wk.shared g 1 (p.pn.map encStr))
 have zK:=fun g s=>(show aD Tryz.prog gW [.slice g 1 (p.pn.map encStr), .str [109,97,105,110]] s (.int .i64 (mK pA 0 p.pn)) s from hix g s)
 generalize hR:p.scope=R
 simp only [Pg.scope]at hR
 unfold S0
 rcases Bool.eq_false_or_eq_true p.may with hb | hb
 case inr=>
  simp only [hb]at hm
  simp only [hb,Bool.false_eq_true,if_false]at hR
  subst hR
  refine aD.go tA rfl fun B Q hB hQ=> ?_
  have⟨hF,hP,hY,hZ⟩:=bt
  repeat' (first
 | simp only [go_sem,hF,hP,hY,hZ]
 | (with_reducible refine CU (hm _) ?_)
 | (with_reducible refine aH hQ ?_;simp only [az,aA,Option.some.injEq,exists_eq_left',go_sem,hF,hP,hY,hZ];repeat' (first | exact Ok.out | with_reducible refine aE ?_ ?_ | (simp;done))))
 simp only [hb]at hm
 simp only [hb,if_true]at hR
 refine aD.go tA rfl fun B Q hB hQ=> ?_
 have⟨hF,hP,hY,hZ⟩:=bt
 repeat' (first
 | simp only [go_sem,hF,hP,hY,hZ]
 | (with_reducible refine CU (hm _) ?_)
 | (with_reducible refine aH hQ ?_;simp only [az,aA,Option.some.injEq,exists_eq_left',go_sem,hF,hP,hY,hZ];repeat' (first | exact Ok.out | with_reducible refine aE ?_ ?_ | (simp;done))))
 refine bm.oD 3 1 rfl ?_
 simp only [go_sem,hF,hP,hY,hZ]
 refine cM 2 1 (bm.ind (ι:=List Pc×Nat×List aB×Nat) (fun i=>p.procs.drop i.2.1=i.1∧i.2.2.1++i.1.map (·.name)=p.pn∧i.2.2.2=i.2.2.1.length) (fun i=>i.1.length)
  (fun i=> [(1, .ptr 0 0),(2, .ptr 1 0),(3, .slice (.tok 0) 1 (i.2.2.1.map encStr)),(18, .slice .shared 5 (p.procs.map cz)),(19, .int .i64 (p.procs.length:Int)),(20, .int .i64 (i.2.1:Int))]) (fun i=>⟨[cj p,[.int .i64 0, .int .i64 0]],[some i.2.2.2]⟩) ?_ (p.procs,0,[],0) ⟨rfl,rfl,rfl⟩)
 rintro⟨rest,k,out,n⟩ ⟨h1,h2,h3⟩ IH
 dsimp only at h1 h2 h3
 subst h3
 have hlo:out.length+rest.length≤900000:=by
  have:=congrArg List.length h2
  simp only [List.length_append,List.length_map]at this
  omega
 cases rest with
 | cons a rest=>
  obtain⟨hP,g2,hF,g4⟩:=drop_cons h1
  have cb:k<4611686018427387904:=by omega
  have hY:(out.length+1)*17≤bI:=by unfold bI;omega
  repeat' (first
 | simp only [go_sem,hF,hP,hY,hZ]
 | (with_reducible refine aH hQ ?_;simp only [az,aA,Option.some.injEq,exists_eq_left',go_sem,hF,hP,hY,hZ];repeat' (first | exact Ok.out | with_reducible refine aE ?_ ?_ | (simp;done))))
  refine eo 2 1 ?_ ?_ (IH (rest,k+1,out++ [a.name],out.length+1) ⟨g2,by rw [← h2];simp,by simp⟩ (Nat.lt_succ_self _))
  ·(simp only [go_sem,hF,hP,hY,hZ,aM cb,List.map_append,List.map_cons,List.map_nil,encStr];try exact bU)
  ·(simp only [go_sem,hF,hP,hY,hZ,aM cb,List.map_append,List.map_cons,List.map_nil,encStr];try exact bU)
 | nil=>
  have hF:=drop_nil h1
  simp only [List.map_nil,List.append_nil]at h2
  subst h2
  rcases Bool.eq_false_or_eq_true (fV p.globals)with b1 | b1
  ·simp only [b1,Bool.true_or,if_true]at hR
   subst hR
   repeat' (first
 | simp only [go_sem,hF,hP,hY,hZ,b1]
 | (with_reducible refine CU (zK _ _) ?_)
 | (with_reducible refine CU (nT _) ?_)
 | (with_reducible refine CU (Ag _ _) ?_)
 | (with_reducible refine aH hQ ?_;simp only [az,aA,Option.some.injEq,exists_eq_left',go_sem,hF,hP,hY,hZ];repeat' (first | exact Ok.out | with_reducible refine aE ?_ ?_ | (simp;done))))
  rcases Bool.eq_false_or_eq_true (fV p.pn)with b2 | b2
  ·simp only [b1,b2,Bool.true_or,Bool.or_true,if_true]at hR
   subst hR
   repeat' (first
 | simp only [go_sem,hF,hP,hY,hZ,b1,b2]
 | (with_reducible refine CU (zK _ _) ?_)
 | (with_reducible refine CU (nT _) ?_)
 | (with_reducible refine CU (Ag _ _) ?_)
 | (with_reducible refine aH hQ ?_;simp only [az,aA,Option.some.injEq,exists_eq_left',go_sem,hF,hP,hY,hZ];repeat' (first | exact Ok.out | with_reducible refine aE ?_ ?_ | (simp;done))))
  rcases FB pA p.procs 0 with ⟨e1,e2⟩ | ⟨m,j,e1,e2,e3⟩
  ·have b3:p.vw=true:=by unfold Pg.vw Pg.find;rw [e1]
   have hi:mK pA 0 p.pn = -1:=e2
   simp only [b1,b2,b3,Bool.or_true,if_true]at hR
   subst hR
   simp only [hi]at zK
   have d1:decide ((-1:Int)<0)=true:=by decide
   repeat' (first
 | simp only [go_sem,hF,hP,hY,hZ,b1,b2,d1]
 | (with_reducible refine CU (zK _ _) ?_)
 | (with_reducible refine CU (nT _) ?_)
 | (with_reducible refine CU (Ag _ _) ?_)
 | (with_reducible refine aH hQ ?_;simp only [az,aA,Option.some.injEq,exists_eq_left',go_sem,hF,hP,hY,hZ];repeat' (first | exact Ok.out | with_reducible refine aE ?_ ?_ | (simp;done))))
  have hi:mK pA 0 p.pn=((j:Nat):Int):=by rw [show p.pn=p.procs.map (·.name)from rfl];simpa using e3
  simp only [hi]at zK
  have d1:decide (((j:Nat):Int)<0)=false:=by simp
  have hj:j<p.procs.length:=(List.getElem?_eq_some_iff.1 e2).1
  have b3:p.vw=decide ((m.params.length:Int) > 0):=by unfold Pg.vw Pg.find;rw [e1]
  rw [b3]at hR
  rcases Bool.eq_false_or_eq_true (decide ((m.params.length:Int) > 0))with b4 | b4
  ·simp only [b1,b2,b4,Bool.or_true,if_true]at hR
   subst hR
   repeat' (first
 | simp only [go_sem,hF,hP,hY,hZ,b1,b2,d1,e2,b4]
 | (with_reducible refine CU (zK _ _) ?_)
 | (with_reducible refine CU (nT _) ?_)
 | (with_reducible refine CU (Ag _ _) ?_)
 | (with_reducible refine aH hQ ?_;simp only [az,aA,Option.some.injEq,exists_eq_left',go_sem,hF,hP,hY,hZ];repeat' (first | exact Ok.out | with_reducible refine aE ?_ ?_ | (simp;done))))
  simp only [b1,b2,b4,Bool.or_false,Bool.false_eq_true,if_false]at hR
  repeat' (first
 | simp only [go_sem,hF,hP,hY,hZ,b1,b2,d1,e2,b4]
 | (with_reducible refine CU (zK _ _) ?_)
 | (with_reducible refine CU (nT _) ?_)
 | (with_reducible refine CU (Ag _ _) ?_)
 | (with_reducible refine CU (dN _) ?_)
 | (with_reducible refine aH hQ ?_;simp only [az,aA,Option.some.injEq,exists_eq_left',go_sem,hF,hP,hY,hZ];repeat' (first | exact Ok.out | with_reducible refine aE ?_ ?_ | (simp;done))))
  refine cM 2 1 (bm.ind (ι:=List Pc×Nat) (fun i=>p.procs.drop i.2=i.1∧sT p p.pn i.1=R) (fun i=>i.1.length)
   (fun i=> [(1, .ptr 0 0),(2, .ptr 1 0),(3, .slice (.tok 0) 1 (p.pn.map encStr)),(7, .dC (gC p) 0),(57, .slice .shared 5 (p.procs.map cz)),(58, .int .i64 (p.procs.length:Int)),(59, .int .i64 (i.2:Int))]) (fun i=>⟨[cj p,[.int .i64 0, .int .i64 0]],[some p.pn.length]⟩) ?_ (p.procs,0) ⟨rfl,hR⟩)
  clear IH h1 hF hR
  rintro⟨rest,k⟩ ⟨h1,hR⟩ IH
  dsimp only at h1 hR
  cases rest with
  | nil=>
   have hF:=drop_nil h1
   simp only [sT]at hR
   subst hR
   repeat' (first
 | simp only [go_sem,hF,hP,hY,hZ]
 | (with_reducible refine aH hQ ?_;simp only [az,aA,Option.some.injEq,exists_eq_left',go_sem,hF,hP,hY,hZ];repeat' (first | exact Ok.out | with_reducible refine aE ?_ ?_ | (simp;done))))
  | cons f rest=>
   obtain⟨hP,g2,hF,g4⟩:=drop_cons h1
   have cb:k<4611686018427387904:=by omega
   have wQ:=List.mem_of_getElem? hP
   have C5:=h.small wQ
   have MK:=fun s=>aaJ (f:=f) C5.par C5.vars s
   have n8:f.own.length<4611686018427387904:=by have h1:=C5.par;have h2:=C5.vars;unfold Pc.own Pc.A7;simp;omega
   have Xn:=fun s=>zJ (l:=f.own) n8 .shared s
   have yZ:=fun {s:St} {o:Nat} (ho:s.aw[o]? = some (cj p))=>vu (l:=f.own) n8 (f:=mS) (row:=cj p) (b:=eC p.globals) (iX p) (by with_unfolding_all rfl) (fun x _=>P7 p C5.Fs x) ho
   have P8:=fun {s:St} {o:Nat} (ho:s.aw[o]? = some (cj p))=>(show aD Tryz.prog fw [.slice .shared 1 (f.own.map encStr), .fY 63 [.ptr o 0]] s (.bool (f.own.any (eC p.globals))) s from yZ ho)
   simp only [sT,MH,b1,Bool.false_or]at hR
   rcases Bool.eq_false_or_eq_true (fV f.own)with c1 | c1
   ·simp only [c1,Bool.true_or,if_true]at hR
    subst hR
    repeat' (first
 | simp only [go_sem,hF,hP,hY,hZ,c1]
 | (with_reducible refine CU (MK _) ?_)
 | (with_reducible refine CU (Xn _) ?_)
 | (with_reducible refine CU (P8 (by with_unfolding_all rfl)) ?_)
 | (with_reducible refine aH hQ ?_;simp only [az,aA,Option.some.injEq,exists_eq_left',go_sem,hF,hP,hY,hZ];repeat' (first | exact Ok.out | with_reducible refine aE ?_ ?_ | (simp;done))))
   rcases Bool.eq_false_or_eq_true (f.own.any (eC p.globals))with c2 | c2
   ·simp only [c1,c2,Bool.false_or,if_true]at hR
    subst hR
    repeat' (first
 | simp only [go_sem,hF,hP,hY,hZ,c1,c2]
 | (with_reducible refine CU (MK _) ?_)
 | (with_reducible refine CU (Xn _) ?_)
 | (with_reducible refine CU (P8 (by with_unfolding_all rfl)) ?_)
 | (with_reducible refine aH hQ ?_;simp only [az,aA,Option.some.injEq,exists_eq_left',go_sem,hF,hP,hY,hZ];repeat' (first | exact Ok.out | with_reducible refine aE ?_ ?_ | (simp;done))))
   simp only [c1,c2,Bool.or_self,Bool.false_eq_true,if_false]at hR
   obtain⟨it,vv,A8⟩:=PJ hP (by omega)
   rw [← vv]at hR
   have Xo:it.length≤900000:=by
    have e:=congrArg List.length vv
    have e2:=(oO p).2 k f hP
    obtain⟨a,b,e',_,_,e3,e4⟩:=e2
    have e5:=oP p
    have e6:=congrArg List.length e3
    rw [e4]at e5
    simp only [List.length_map,List.length_append]at e e5 e6
    omega
   repeat' (first
 | simp only [go_sem,hF,hP,hY,hZ,c1,c2]
 | (with_reducible refine CU (MK _) ?_)
 | (with_reducible refine CU (Xn _) ?_)
 | (with_reducible refine CU (P8 (by with_unfolding_all rfl)) ?_)
 | (with_reducible refine CU (A8 _) ?_)
 | (with_reducible refine aH hQ ?_;simp only [az,aA,Option.some.injEq,exists_eq_left',go_sem,hF,hP,hY,hZ];repeat' (first | exact Ok.out | with_reducible refine aE ?_ ?_ | (simp;done))))
   obtain⟨q,hq⟩ : ∃ q,xY p f p.pn (it.map Im.s)=q:=⟨_,rfl⟩
   rw [hq]at hR
   refine cM 3 1 (bm.ind (ι:=List Im×Nat) (fun i=>it.drop i.2=i.1∧xY p f p.pn (i.1.map Im.s)=q) (fun i=>i.1.length)
    (fun i=> [(1, .ptr 0 0),(2, .ptr 1 0),(3, .slice (.tok 0) 1 (p.pn.map encStr)),(7, .dC (gC p) 0),(9, .ptr 2 0),(57, .slice .shared 5 (p.procs.map cz)),(58, .int .i64 (p.procs.length:Int)),(59, .int .i64 (k:Int)),(76, .slice .shared 17 (it.map ez)),(77, .int .i64 (it.length:Int)),(78, .int .i64 (i.2:Int))]) (fun i=>⟨[cj p,[.int .i64 0, .int .i64 0],cz f],[some p.pn.length]⟩) ?_ (it,0) ⟨rfl,hq⟩)
   rintro⟨ou,n⟩ ⟨j1,j2⟩ SB
   dsimp only at j1 j2
   have yN:=hF
   cases ou with
   | nil=>
    have aiL:=drop_nil j1
    simp only [List.map_nil,xY]at j2
    subst j2
    simp only at hR
    repeat' (first
 | simp only [go_sem,hF,hP,hY,hZ,aiL]
 | (with_reducible refine aH hQ ?_;simp only [az,aA,Option.some.injEq,exists_eq_left',go_sem,hF,hP,hY,hZ];repeat' (first | exact Ok.out | with_reducible refine aE ?_ ?_ | (simp;done))))
    refine eo 2 1 ?_ ?_ (IH (rest,k+1) ⟨g2,hR⟩ (Nat.lt_succ_self _))
    ·(simp only [go_sem,hF,hP,hY,hZ,aM cb];try exact bU)
    ·(simp only [go_sem,hF,hP,hY,hZ,aM cb];try exact bU)
   | cons i ou=>
    obtain⟨nD,Hy,vx,jg4⟩:=drop_cons j1
    have qT:n<4611686018427387904:=by omega
    have C6:i.s∈Sm.dG f.body:=by rw [← vv];exact List.mem_map_of_mem (List.mem_of_getElem? nD)
    have hkn:=Ug (v:=i.s) C5 (procs:=p.pn) (by omega) (h.said wQ _ C6)
    simp only [List.map_cons,xY]at j2
    rcases Bool.eq_false_or_eq_true (i.s.known p f p.pn)with c3 | c3
    ·simp only [c3,if_true]at j2
     repeat' (first
 | simp only [go_sem,hF,hP,hY,hZ,vx,nD,c3]
 | (with_reducible refine CU (hkn _ _) ?_)
 | (with_reducible refine aH hQ ?_;simp only [az,aA,Option.some.injEq,exists_eq_left',go_sem,hF,hP,hY,hZ];repeat' (first | exact Ok.out | with_reducible refine aE ?_ ?_ | (simp;done))))
     refine eo 3 1 ?_ ?_ (SB (ou,n+1) ⟨Hy,j2⟩ (Nat.lt_succ_self _))
     ·(simp only [go_sem,hF,hP,hY,hZ,aM qT];try exact bU)
     ·(simp only [go_sem,hF,hP,hY,hZ,aM qT];try exact bU)
    ·simp only [c3,Bool.false_eq_true,if_false]at j2
     subst j2
     simp only at hR
     subst hR
     repeat' (first
 | simp only [go_sem,hF,hP,hY,hZ,vx,nD,c3]
 | (with_reducible refine CU (hkn _ _) ?_)
 | (with_reducible refine aH hQ ?_;simp only [az,aA,Option.some.injEq,exists_eq_left',go_sem,hF,hP,hY,hZ];repeat' (first | exact Ok.out | with_reducible refine aE ?_ ?_ | (simp;done))))
end Go.Abs

/-! Rng -/

namespace Go.Abs
mutual
def Ex.pB:Ex→Prop
 | ⟨_,n,_,kids⟩=>n≤9223372036854775807∧Ex.uM kids
def Ex.uM:List Ex→Prop
 | []=>True
 | x::l=>x.pB∧Ex.uM l
end
end Go.Abs

/-! FineM -/

namespace Go.Abs
mutual
def Sm.pB:Sm→Prop
 | ⟨_,_,_,_,_,x,_,args,a7,aW⟩=>x.pB∧(∀ a∈args,a.x.pB)∧Sm.uM a7∧Sm.uM aW
def Sm.uM:List Sm→Prop
 | []=>True
 | s::l=>s.pB∧Sm.uM l
end
def Pg.pB (p:Pg):Prop:=∀ f∈p.procs,Sm.uM f.body
theorem C7 {f:Pc} : ∀ {l:List Pc} {n:Nat},Pc.ey n l=true→f∈l→(isName f.name=true∧df f.vars=true∧df f.fin=true∧Pm.eB f.params=true)∧∃ n,(Sm.fH 1 n f.body).1=true
 | g::l,n,h,m=>by
  simp only [Pc.ey]at h
  split at h
  ·cases h
  rename_i c1
  split at h
  ·cases h
  rename_i c2
  split at h
  ·cases h
  rename_i c3
  simp only [Bool.or_eq_true,Bool.not_eq_true',not_or,Bool.not_eq_false]at c1 c2 c3
  rcases List.mem_cons.1 m with rfl | m
  ·exact⟨⟨c1.1.1.2,c1.1.2,c1.2,c2⟩,n,c3⟩
  ·exact C7 h m
mutual
theorem J8 : ∀ (s:Sm) (nest:Int) (n:Nat),(Sm.nY nest n s).1=true→s.size<4611686018427387000→s.tL
 | ⟨id,kind,labels,name,proc,x,has,args,a7,aW⟩,nest,n,hm,hs=>by
  obtain⟨_,_,h1,h2,h3,_⟩:=C2 hm
  rw [zI]
  rw [(qU h2).2]at h2
  rw [(qU h3).2]at h3
  refine⟨Fw h1 hs,rT a7 _ _ h2 ?_,rT aW _ _ h3 ?_⟩ <;> simp only [Sm.size]at hs <;> omega
theorem rT : ∀ (l:List Sm) (nest:Int) (n:Nat),(Sm.ey nest n l).1=true→Sm.aY l<4611686018427387000→Sm.jc l
 | [],_,_,_,_=>by simp only [Sm.jc]
 | s::l,nest,n,hm,hs=>by
  simp only [Sm.ey]at hm
  simp only [Sm.aY]at hs
  split at hm
  ·cases hm
  rename_i hc
  simp only [Bool.not_eq_true',Bool.not_eq_false]at hc
  exact⟨J8 s nest n hc (by omega),rT l nest _ hm (by omega)⟩
end
theorem xZ {p:Pg} (h:p.may=true) (hs:p.size<4611686018427387000):p.D9:=by
 have hf:=PU h hs
 rw [← yr]at h
 unfold Pg.Cg at h
 split at h
 ·cases h
 refine⟨hf.sz,hf.Fs,hf.oz,fun f m=> ?_⟩
 obtain⟨_,n,e⟩:=C7 h m
 rw [(qU e).2]at e
 have:=Pc.b9 m
 simp only [Pg.size]at hs
 exact rT f.body 1 n e (by unfold Pc.size at this;omega)
end Go.Abs

/-! Sc5 -/

namespace Go.Abs
set_option maxRecDepth 8000
open Go.Proofs
theorem P9 (x:It):(iC x)[1]? = some (.int .i64 x.s.kind):=nd rfl
theorem Qa (x:It):(iC x)[3]? = some (.str x.s.name):=nd rfl
theorem Qb (x:It):(iC x)[4]? = some (.str x.s.proc):=nd rfl
theorem Uh (x:It):List.take 16 (iC x)=iC x:=nd rfl
attribute [go_sem] P9 Qa Qb Uh
end Go.Abs

/-! Ar1 -/

namespace Go.Abs
set_option maxRecDepth 8000
open Go.Proofs
def A9:List Pm→List Ar→Bool
 | [],_=>true
 | _,[]=>true
 | a::l,b::m=>if a.ref==b.ref then A9 l m else false
def Ba (l:List Pm) (m:List Ar):Bool:=if(l.length:Int)==(m.length:Int)then A9 l m else false
def Sm.qx (p:Pg) (v:Sm):Bool:=v.kind==4 && match p.find v.proc with | none=>false | some q=>Ba q.params v.args
theorem Xq {l:List Pm} {m:List Ar} (hl:l.length<1000000000) (hm:m.length<1000000000) (s:St):aD Tryz.prog sE [.slice .shared 2 (l.map fD), .slice .shared 6 (m.map dO)] s (.bool (Ba l m)) s:=by
 refine aD.pure ?_ (by simp [D.bH,D.ok,Tag.ok,JH,DY]) rfl s
 generalize h:Ba l m=q
 simp only [Ba]at h
 unfold S0
 have b0:((l.length:Int) != (m.length:Int)) = !((l.length:Int)==(m.length:Int)):=rfl
 rcases Bool.eq_false_or_eq_true ((l.length:Int)==(m.length:Int))with b1 | b1
 case inr=>
  rw [b1]at b0
  simp only [b1,Bool.false_eq_true,if_false]at h
  subst h
  refine aD.go vj rfl fun B Q hB hQ=> ?_
  have⟨hF,hP,hY,hZ⟩:=bt
  repeat' (first
 | simp only [go_sem,hF,hP,hY,hZ,b0,Bool.not_false]
 | (with_reducible refine aH hQ ?_;simp only [az,aA,Option.some.injEq,exists_eq_left',go_sem,hF,hP,hY,hZ];repeat' (first | exact Ok.out | with_reducible refine aE ?_ ?_ | (simp;done))))
 rw [b1]at b0
 simp only [b1,if_true]at h
 have SC:l.length=m.length:=by have:=eq_of_beq b1;omega
 refine aD.go vj rfl fun B Q hB hQ=> ?_
 have⟨hF,hP,hY,hZ⟩:=bt
 repeat' (first
 | simp only [go_sem,hF,hP,hY,hZ,b0,Bool.not_true]
 | (with_reducible refine aH hQ ?_;simp only [az,aA,Option.some.injEq,exists_eq_left',go_sem,hF,hP,hY,hZ];repeat' (first | exact Ok.out | with_reducible refine aE ?_ ?_ | (simp;done))))
 refine cM 0 0 (bm.ind (ι:=List Pm×List Ar×Nat) (fun i=>l.drop i.2.2=i.1∧m.drop i.2.2=i.2.1∧A9 i.1 i.2.1=q) (fun i=>i.1.length)
  (fun i=> [(1, .slice .shared 6 (m.map dO)),(12, .slice .shared 2 (l.map fD)),(13, .int .i64 (l.length:Int)),(14, .int .i64 (i.2.2:Int))]) (fun i=>⟨[],[]⟩) ?_ (l,m,0) ⟨rfl,rfl,h⟩)
 rintro⟨r1,r2,k⟩ ⟨h1,h2,h⟩ IH
 dsimp only at h1 h2 h
 cases r1 with
 | nil=>
  have hF:=drop_nil h1
  simp only [A9]at h
  subst h
  repeat' (first
 | simp only [go_sem,hF,hP,hY,hZ]
 | (with_reducible refine aH hQ ?_;simp only [az,aA,Option.some.injEq,exists_eq_left',go_sem,hF,hP,hY,hZ];repeat' (first | exact Ok.out | with_reducible refine aE ?_ ?_ | (simp;done))))
 | cons a r1=>
  obtain⟨hP,g2,hF,g4⟩:=drop_cons h1
  cases r2 with
  | nil=>have:=List.drop_eq_nil_iff.1 h2;omega
  | cons b r2=>
   obtain⟨SD,b2,J9,_⟩:=drop_cons h2
   have cb:k<4611686018427387904:=by omega
   simp only [A9]at h
   have w1:(true==true)=true:=rfl
   have w2:(false==false)=true:=rfl
   have w3:(true==false)=false:=rfl
   have w4:(false==true)=false:=rfl
   have v1:(true != true)=false:=rfl
   have v2:(false != false)=false:=rfl
   have v3:(true != false)=true:=rfl
   have v4:(false != true)=true:=rfl
   rcases Bool.eq_false_or_eq_true a.ref with ea | ea
   ·rcases Bool.eq_false_or_eq_true b.ref with eb | eb
    ·simp only [ea,eb,w1,w2,if_true]at h
     repeat' (first
 | simp only [go_sem,hF,hP,hY,hZ,SD,J9,ea,eb,w1,w2,v1,v2]
 | (with_reducible refine aH hQ ?_;simp only [az,aA,Option.some.injEq,exists_eq_left',go_sem,hF,hP,hY,hZ];repeat' (first | exact Ok.out | with_reducible refine aE ?_ ?_ | (simp;done))))
     refine eo 0 0 ?_ ?_ (IH (r1,r2,k+1) ⟨g2,b2,h⟩ (Nat.lt_succ_self _))
     ·(simp only [go_sem,hF,hP,hY,hZ,aM cb];try exact bU)
     ·(simp only [go_sem,hF,hP,hY,hZ,aM cb];try exact bU)
    ·simp only [ea,eb,w3,w4,Bool.false_eq_true,if_false]at h
     subst h
     repeat' (first
 | simp only [go_sem,hF,hP,hY,hZ,SD,J9,ea,eb,w3,w4,v3,v4]
 | (with_reducible refine aH hQ ?_;simp only [az,aA,Option.some.injEq,exists_eq_left',go_sem,hF,hP,hY,hZ];repeat' (first | exact Ok.out | with_reducible refine aE ?_ ?_ | (simp;done))))
   ·rcases Bool.eq_false_or_eq_true b.ref with eb | eb
    ·simp only [ea,eb,w3,w4,Bool.false_eq_true,if_false]at h
     subst h
     repeat' (first
 | simp only [go_sem,hF,hP,hY,hZ,SD,J9,ea,eb,w3,w4,v3,v4]
 | (with_reducible refine aH hQ ?_;simp only [az,aA,Option.some.injEq,exists_eq_left',go_sem,hF,hP,hY,hZ];repeat' (first | exact Ok.out | with_reducible refine aE ?_ ?_ | (simp;done))))
    ·simp only [ea,eb,w1,w2,if_true]at h
     repeat' (first
 | simp only [go_sem,hF,hP,hY,hZ,SD,J9,ea,eb,w1,w2,v1,v2]
 | (with_reducible refine aH hQ ?_;simp only [az,aA,Option.some.injEq,exists_eq_left',go_sem,hF,hP,hY,hZ];repeat' (first | exact Ok.out | with_reducible refine aE ?_ ?_ | (simp;done))))
     refine eo 0 0 ?_ ?_ (IH (r1,r2,k+1) ⟨g2,b2,h⟩ (Nat.lt_succ_self _))
     ·(simp only [go_sem,hF,hP,hY,hZ,aM cb];try exact bU)
     ·(simp only [go_sem,hF,hP,hY,hZ,aM cb];try exact bU)
end Go.Abs

/-! Ar2 -/

namespace Go.Abs
set_option maxRecDepth 8000
open Go.Proofs
theorem Xr {p:Pg} {v:Sm} (h:p.jO) (hv:v.om) (s:St):aD Tryz.prog sB [.agg (cj p), .agg (bc v)] s (.bool (v.qx p)) s:=by
 refine aD.pure ?_ (by simp [D.bH,D.ok,iX,mE]) rfl s
 obtain⟨sj,rC,wP⟩:=h.procs
 have Ao:v.args.length<1000000000:=by have:=Ar.dq v.args;have:=hv.2.2;omega
 generalize hR:v.qx p=R
 simp only [Sm.qx]at hR
 unfold S0
 have b0:(v.kind != 4) = !(v.kind==4):=rfl
 rcases Bool.eq_false_or_eq_true (v.kind==4)with b1 | b1
 case inr=>
  rw [b1]at b0
  simp only [b1,Bool.false_and]at hR
  subst hR
  refine aD.go va rfl fun B Q hB hQ=> ?_
  have⟨hF,hP,hY,hZ⟩:=bt
  repeat' (first
 | simp only [go_sem,hF,hP,hY,hZ,b0,Bool.not_false]
 | (with_reducible refine aH hQ ?_;simp only [az,aA,Option.some.injEq,exists_eq_left',go_sem,hF,hP,hY,hZ];repeat' (first | exact Ok.out | with_reducible refine aE ?_ ?_ | (simp;done))))
 rw [b1]at b0
 simp only [b1,Bool.true_and,Pg.find]at hR
 refine aD.go va rfl fun B Q hB hQ=> ?_
 have⟨hF,hP,hY,hZ⟩:=bt
 repeat' (first
 | simp only [go_sem,hF,hP,hY,hZ,b0,Bool.not_true]
 | (with_reducible refine aH hQ ?_;simp only [az,aA,Option.some.injEq,exists_eq_left',go_sem,hF,hP,hY,hZ];repeat' (first | exact Ok.out | with_reducible refine aE ?_ ?_ | (simp;done))))
 refine cM 2 0 (bm.ind (ι:=List Pc×Nat) (fun i=>p.procs.drop i.2=i.1∧(match jG v.proc i.1 with | none=>false | some q=>Ba q.params v.args)=R) (fun i=>i.1.length)
  (fun i=> [(3, .ptr 1 0),(11, .slice .shared 5 (p.procs.map cz)),(12, .int .i64 (p.procs.length:Int)),(13, .int .i64 (i.2:Int))]) (fun i=>⟨[cj p,bc v],[]⟩) ?_ (p.procs,0) ⟨rfl,hR⟩)
 clear hR
 rintro⟨rest,k⟩ ⟨h1,hR⟩ IH
 dsimp only at h1 hR
 cases rest with
 | nil=>
  have hF:=drop_nil h1
  simp only [jG]at hR
  subst hR
  repeat' (first
 | simp only [go_sem,hF,hP,hY,hZ]
 | (with_reducible refine aH hQ ?_;simp only [az,aA,Option.some.injEq,exists_eq_left',go_sem,hF,hP,hY,hZ];repeat' (first | exact Ok.out | with_reducible refine aE ?_ ?_ | (simp;done))))
 | cons a rest=>
  obtain⟨hP,g2,hF,g4⟩:=drop_cons h1
  have cb:k<4611686018427387904:=by omega
  have C5:=h.small (List.mem_of_getElem? hP)
  have Sy:=fun s=>Xq (l:=a.params) (m:=v.args) (by have:=C5.par;omega) Ao s
  simp only [jG]at hR
  rcases Bool.eq_false_or_eq_true (a.name==v.proc)with c1 | c1
  ·simp only [c1,if_true]at hR
   subst hR
   repeat' (first
 | simp only [go_sem,hF,hP,hY,hZ,c1]
 | (with_reducible refine CU (Sy _) ?_)
 | (with_reducible refine aH hQ ?_;simp only [az,aA,Option.some.injEq,exists_eq_left',go_sem,hF,hP,hY,hZ];repeat' (first | exact Ok.out | with_reducible refine aE ?_ ?_ | (simp;done))))
  ·simp only [c1,Bool.false_eq_true,if_false]at hR
   repeat' (first
 | simp only [go_sem,hF,hP,hY,hZ,c1]
 | (with_reducible refine aH hQ ?_;simp only [az,aA,Option.some.injEq,exists_eq_left',go_sem,hF,hP,hY,hZ];repeat' (first | exact Ok.out | with_reducible refine aE ?_ ?_ | (simp;done))))
   refine eo 2 0 ?_ ?_ (IH (rest,k+1) ⟨g2,hR⟩ (Nat.lt_succ_self _))
   ·(simp only [go_sem,hF,hP,hY,hZ,aM cb];try exact bU)
   ·(simp only [go_sem,hF,hP,hY,hZ,aM cb];try exact bU)
def FD (p:Pg):List Sm→Option Sm
 | []=>none
 | v::l=>if v.kind==4 && !(v.qx p)then some v else FD p l
def pC (c:Int):Option Sm→Int×Int
 | some v=>(c,v.id)
 | none=>(0,0)
def Pg.arity (p:Pg):Int×Int:=if p.scope.1==0 then pC 6 (FD p p.pre)else(1,0)
theorem Pg.jO.pre {p:Pg} (h:p.jO) : ∀ v∈p.pre,v.om:=fun v m=>by
 simp only [Pg.pre,List.mem_flatten,List.mem_map]at m
 obtain⟨l,⟨f,hf,rfl⟩,m⟩:=m
 exact h.said hf v m
theorem zL {p:Pg} (h:p.jO) (s:St):aD Tryz.prog ky [.agg (cj p)] s (.agg [.int .i64 p.arity.1, .int .i64 p.arity.2]) s:=by
 refine aD.pure ?_ (by simp [D.bH,D.ok,iX]) rfl s
 obtain⟨sj,rC,wP⟩:=h.procs
 have rp:=fun s=>qh h s
 have dN:=fun s=>AT (p:=p) (by omega) s
 have hL:=(oO p).1
 have hll:=oP p
 generalize hR:p.arity=R
 simp only [Pg.arity]at hR
 unfold S0
 have b0:(p.scope.1 != 0) = !(p.scope.1==0):=rfl
 rcases Bool.eq_false_or_eq_true (p.scope.1==0)with b1 | b1
 case inr=>
  rw [b1]at b0
  simp only [b1,Bool.false_eq_true,if_false]at hR
  subst hR
  refine aD.go tB rfl fun B Q hB hQ=> ?_
  have⟨hF,hP,hY,hZ⟩:=bt
  repeat' (first
 | simp only [go_sem,hF,hP,hY,hZ,b0,Bool.not_false]
 | (with_reducible refine CU (rp _) ?_)
 | (with_reducible refine aH hQ ?_;simp only [az,aA,Option.some.injEq,exists_eq_left',go_sem,hF,hP,hY,hZ];repeat' (first | exact Ok.out | with_reducible refine aE ?_ ?_ | (simp;done))))
 rw [b1]at b0
 simp only [b1,if_true, ← hL]at hR
 refine aD.go tB rfl fun B Q hB hQ=> ?_
 have⟨hF,hP,hY,hZ⟩:=bt
 repeat' (first
 | simp only [go_sem,hF,hP,hY,hZ,b0,Bool.not_true,qe]
 | (with_reducible refine CU (rp _) ?_)
 | (with_reducible refine CU (dN _) ?_)
 | (with_reducible refine aH hQ ?_;simp only [az,aA,Option.some.injEq,exists_eq_left',go_sem,hF,hP,hY,hZ];repeat' (first | exact Ok.out | with_reducible refine aE ?_ ?_ | (simp;done))))
 refine cM 2 0 (bm.ind (ι:=List Im×Nat) (fun i=>p.eO.L.drop i.2=i.1∧pC 6 (FD p (i.1.map Im.s))=R) (fun i=>i.1.length)
  (fun i=> [(1, .ptr 0 0),(2, .ptr 1 0),(14, .slice .shared 17 (p.eO.L.map ez)),(15, .int .i64 (p.eO.L.length:Int)),(16, .int .i64 (i.2:Int))]) (fun i=>⟨[cj p,[.int .i64 0, .int .i64 0]],[]⟩) ?_ (p.eO.L,0) ⟨rfl,hR⟩)
 clear hR
 rintro⟨rest,k⟩ ⟨h1,hR⟩ IH
 dsimp only at h1 hR
 cases rest with
 | nil=>
  have hF:=drop_nil h1
  simp only [List.map_nil,FD,pC]at hR
  subst hR
  repeat' (first
 | simp only [go_sem,hF,hP,hY,hZ]
 | (with_reducible refine aH hQ ?_;simp only [az,aA,Option.some.injEq,exists_eq_left',go_sem,hF,hP,hY,hZ];repeat' (first | exact Ok.out | with_reducible refine aE ?_ ?_ | (simp;done))))
 | cons a rest=>
  obtain⟨hP,g2,hF,g4⟩:=drop_cons h1
  have cb:k<4611686018427387904:=by omega
  have C6:a.s∈p.pre:=by rw [← hL];exact List.mem_map_of_mem (List.mem_of_getElem? hP)
  have Xs:=fun s=>Xr h (h.pre _ C6) s
  simp only [List.map_cons,FD]at hR
  rcases Bool.eq_false_or_eq_true (a.s.kind==4)with c1 | c1
  ·rcases Bool.eq_false_or_eq_true (a.s.qx p)with c2 | c2
   ·simp only [c1,c2,Bool.not_true,Bool.and_false,Bool.false_eq_true,if_false]at hR
    repeat' (first
 | simp only [go_sem,hF,hP,hY,hZ,c1,c2]
 | (with_reducible refine CU (Xs _) ?_)
 | (with_reducible refine aH hQ ?_;simp only [az,aA,Option.some.injEq,exists_eq_left',go_sem,hF,hP,hY,hZ];repeat' (first | exact Ok.out | with_reducible refine aE ?_ ?_ | (simp;done))))
    refine eo 2 0 ?_ ?_ (IH (rest,k+1) ⟨g2,hR⟩ (Nat.lt_succ_self _))
    ·(simp only [go_sem,hF,hP,hY,hZ,aM cb];try exact bU)
    ·(simp only [go_sem,hF,hP,hY,hZ,aM cb];try exact bU)
   ·simp only [c1,c2,Bool.not_false,Bool.and_true,if_true,pC]at hR
    subst hR
    repeat' (first
 | simp only [go_sem,hF,hP,hY,hZ,c1,c2]
 | (with_reducible refine CU (Xs _) ?_)
 | (with_reducible refine aH hQ ?_;simp only [az,aA,Option.some.injEq,exists_eq_left',go_sem,hF,hP,hY,hZ];repeat' (first | exact Ok.out | with_reducible refine aE ?_ ?_ | (simp;done))))
  ·simp only [c1,Bool.false_and,Bool.false_eq_true,if_false]at hR
   repeat' (first
 | simp only [go_sem,hF,hP,hY,hZ,c1]
 | (with_reducible refine CU (Xs _) ?_)
 | (with_reducible refine aH hQ ?_;simp only [az,aA,Option.some.injEq,exists_eq_left',go_sem,hF,hP,hY,hZ];repeat' (first | exact Ok.out | with_reducible refine aE ?_ ?_ | (simp;done))))
   refine eo 2 0 ?_ ?_ (IH (rest,k+1) ⟨g2,hR⟩ (Nat.lt_succ_self _))
   ·(simp only [go_sem,hF,hP,hY,hZ,aM cb];try exact bU)
   ·(simp only [go_sem,hF,hP,hY,hZ,aM cb];try exact bU)
end Go.Abs

/-! Ar3 -/

namespace Go.Abs
set_option maxRecDepth 8000
open Go.Proofs
theorem C8 {p:Pg} (h:(p.scope.1==0)=true):p.may=true:=by
 unfold Pg.scope at h
 split at h
 ·assumption
 ·cases h
end Go.Abs

/-! Srt1 -/

namespace Go.Abs
set_option maxRecDepth 8000
open Go.Proofs
def lK (out:List aB):List aB→aB→Bool→aB×Bool
 | [],c,a=>(c,a)
 | s::l,c,a=>if !(eC out s) && (!a || bytesLess s c)then lK out l s true else lK out l c a
def MM (l out:List aB):List aB:=if(lK out l [] false).2 then out++ [(lK out l [] false).1]else out
def nP (l:List aB):Nat→List aB→List aB
 | 0,out=>out
 | n+1,out=>nP l n (MM l out)
def iS (l:List aB):List aB:=nP l l.length []
end Go.Abs

/-! Shelf -/

namespace Go.Proofs
open Go.Shelf
def Tryz.GY:Go.Shelf.Ren:=⟨fun | 190=>126 | 125=>169 | 258=>168 | 128=>202 | 129=>203 | 302=>193 | 303=>194 | 304=>195 | 305=>196 | 306=>197 | 307=>198 | 308=>199 | 309=>200 | 310=>201 | 333=>220 | 329=>221 | 330=>222 | 334=>223 | 335=>224 | 336=>225 | 344=>238 | n=>n,fun | 31=>22 | 9=>9 | 3=>3 | 46=>177 | 0=>0 | 51=>194 | 53=>196 | 4=>4 | 183=>187 | 182=>186 | 131=>131 | 5=>5 | 218=>209 | 222=>213 | 228=>221 | 229=>218 | n=>n,fun | n=>n⟩
theorem Tryz.Hz:Go.Proofs.Lays.n190 Tryz.prog Tryz.GY:= {
 mixed:=by kernel_rfl
 f125:=Tryz.func169.trans (congrArg some (by kernel_rfl))
 f128:=Tryz.func202.trans (congrArg some (by kernel_rfl))
 f129:=Tryz.func203.trans (congrArg some (by kernel_rfl))
 f190:=Tryz.func126.trans (congrArg some (by kernel_rfl))
 f258:=Tryz.func168.trans (congrArg some (by kernel_rfl))
 f302:=Tryz.func193.trans (congrArg some (by kernel_rfl))
 f303:=Tryz.func194.trans (congrArg some (by kernel_rfl))
 f304:=Tryz.func195.trans (congrArg some (by kernel_rfl))
 f305:=Tryz.func196.trans (congrArg some (by kernel_rfl))
 f306:=Tryz.func197.trans (congrArg some (by kernel_rfl))
 f307:=Tryz.func198.trans (congrArg some (by kernel_rfl))
 f308:=Tryz.func199.trans (congrArg some (by kernel_rfl))
 f309:=Tryz.func200.trans (congrArg some (by kernel_rfl))
 f310:=Tryz.func201.trans (congrArg some (by kernel_rfl))
 f329:=Tryz.func221.trans (congrArg some (by kernel_rfl))
 f330:=Tryz.func222.trans (congrArg some (by kernel_rfl))
 f333:=Tryz.func220.trans (congrArg some (by kernel_rfl))
 f334:=Tryz.func223.trans (congrArg some (by kernel_rfl))
 f335:=Tryz.func224.trans (congrArg some (by kernel_rfl))
 f336:=Tryz.func225.trans (congrArg some (by kernel_rfl))
 f344:=Tryz.func238.trans (congrArg some (by kernel_rfl))
 t0:=Tryz.underlying0
 a0:=Tryz.isAgg0
 z0:=Tryz.sizeOf0
 v0:=Tryz.zeroValue0
 t3:=Tryz.underlying3
 a3:=Tryz.isAgg3
 z3:=Tryz.sizeOf3
 v3:=Tryz.zeroValue3
 t4:=Tryz.underlying4
 a4:=Tryz.isAgg4
 z4:=Tryz.sizeOf4
 v4:=Tryz.zeroValue4
 t5:=Tryz.underlying5
 a5:=Tryz.isAgg5
 z5:=Tryz.sizeOf5
 v5:=Tryz.zeroValue5
 t9:=Tryz.underlying9
 a9:=Tryz.isAgg9
 z9:=Tryz.sizeOf9
 v9:=Tryz.zeroValue9
 t31:=Tryz.underlying22
 a31:=Tryz.isAgg22
 z31:=Tryz.sizeOf22
 v31:=Tryz.zeroValue22
 t46:=Tryz.underlying177
 a46:=Tryz.isAgg177
 z46:=Tryz.sizeOf177
 v46:=Tryz.zeroValue177
 t51:=Tryz.underlying194
 a51:=Tryz.isAgg194
 z51:=Tryz.sizeOf194
 v51:=Tryz.zeroValue194
 t53:=Tryz.underlying196
 a53:=Tryz.isAgg196
 z53:=Tryz.sizeOf196
 v53:=Tryz.zeroValue196
 t131:=Tryz.underlying131
 a131:=Tryz.isAgg131
 z131:=Tryz.sizeOf131
 v131:=Tryz.zeroValue131
 t182:=Tryz.underlying186
 a182:=Tryz.isAgg186
 z182:=Tryz.sizeOf186
 v182:=Tryz.zeroValue186
 t183:=Tryz.underlying187
 a183:=Tryz.isAgg187
 z183:=Tryz.sizeOf187
 v183:=Tryz.zeroValue187
 t218:=Tryz.underlying209
 a218:=Tryz.isAgg209
 z218:=Tryz.sizeOf209
 v218:=Tryz.zeroValue209
 t222:=Tryz.underlying213
 a222:=Tryz.isAgg213
 z222:=Tryz.sizeOf213
 v222:=Tryz.zeroValue213
 t228:=Tryz.underlying221
 a228:=Tryz.isAgg221
 z228:=Tryz.sizeOf221
 v228:=Tryz.zeroValue221
 t229:=Tryz.underlying218
 a229:=Tryz.isAgg218
 z229:=Tryz.sizeOf218
 v229:=Tryz.zeroValue218}
open Go.Sort Go.RowKit in
theorem Tryz.slices_Sort_string (x3 off cap:Nat) (ss:List (List UInt8)) (w:World) (hH:Holds encStr w x3 off ss.toArray) (aiM:x3<w.heap.size) (er:ss.length<4611686018427387904) :
 Calls Tryz.prog 126 #[.slice (some ⟨x3,off,none⟩) ss.length cap] w fun e w'=>
  e = .returned (.tuple #[])∧∃ n os,w'=grow (putRow encStr (Sort.ahead w n) x3 off (ss.mergeSort fun x y=>decide (x≤y)).toArray) os:=Any.slices_Sort_string Tryz.Hz x3 off cap ss w hH aiM er
def Tryz.GZ:Go.Shelf.Ren:=⟨fun | 194=>127 | n=>n,fun | 31=>22 | 9=>9 | 3=>3 | 4=>4 | 0=>0 | n=>n,fun | n=>n⟩
theorem Tryz.HA:Go.Proofs.Lays.n194 Tryz.prog Tryz.GZ:= {
 mixed:=by kernel_rfl
 f194:=Tryz.func127.trans (congrArg some (by kernel_rfl))
 t0:=Tryz.underlying0
 a0:=Tryz.isAgg0
 z0:=Tryz.sizeOf0
 v0:=Tryz.zeroValue0
 t3:=Tryz.underlying3
 a3:=Tryz.isAgg3
 z3:=Tryz.sizeOf3
 v3:=Tryz.zeroValue3
 t4:=Tryz.underlying4
 a4:=Tryz.isAgg4
 z4:=Tryz.sizeOf4
 v4:=Tryz.zeroValue4
 t9:=Tryz.underlying9
 a9:=Tryz.isAgg9
 z9:=Tryz.sizeOf9
 v9:=Tryz.zeroValue9
 t31:=Tryz.underlying22
 a31:=Tryz.isAgg22
 z31:=Tryz.sizeOf22
 v31:=Tryz.zeroValue22}
open Go.RowKit Go.Lib Go.Sort in
theorem Tryz.slices_Compact_string (x3 off cap:Nat) (zs:List (List UInt8)) (w:World) (hH:Holds encStr w x3 off zs.toArray) (er:zs.length≤9223372036854775807) (q5:zs.length≤cap) :
 Calls Tryz.prog 127 #[.slice (some ⟨x3,off,none⟩) zs.length cap] w fun e w'=>e = .returned (.slice (some ⟨x3,off,none⟩) (Lib.compact zs).length cap)∧∃ q,w'=putRow encStr (Sort.ahead w q) x3 off (Lib.compact zs++List.replicate (zs.length - (Lib.compact zs).length) []).toArray:=Any.slices_Compact_string Tryz.HA x3 off cap zs w hH er q5
open Go.RowKit Go.Lib Go.Sort in
theorem Tryz.slices_Compact_string_empty (a:Option Addr) (cap:Nat) (w:World) :
 Calls Tryz.prog 127 #[.slice a 0 cap] w fun e w'=>e = .returned (.slice a 0 cap)∧w'=w:=Any.slices_Compact_string_empty Tryz.HA a cap w
open Go.RowKit Go.Sort in
theorem Tryz.slices_Sort_string_none (p:Option Addr) (cap:Nat) (w:World) :
 Calls Tryz.prog 126 #[.slice p 0 cap] w fun e w'=>e = .returned (.tuple #[])∧w'=w:=Any.slices_Sort_string_none Tryz.Hz p cap w
end Go.Proofs

/-! SortR -/

namespace Go.Abs
open Go.Proofs
section
variable {P:Program} {B:e9} {nt:Nat}
theorem Ui {x:Operand} {t:Nat} (h:cX x=some (.s t)):x = .tmp t:=by
 unfold cX at h
 split at h
 ·cases h;rfl
 ·obtain⟨d,_,h⟩:=map_some h;cases h
 ·cases h
 ·cases h
theorem Kb {ops:Array Oper} {o:Oper} {g g':Option (Nat×Bool)} {dst:Option Nat} {f:Nat} {xs:List X} (h:qj P ops o g=some (.call dst g' f xs)) :
 g'=g∧∃ args mf,o.op = .call ⟨.value (.func f),args,mf⟩∧enters P f=true∧uU args.toList=some xs:=by
 unfold qj at h
 split at h
 ·rename_i f' args mf k8
  split at h
  ·rename_i he
   obtain⟨xs',h1,h2⟩:=map_some h
   cases h2
   exact⟨rfl,args,mf,k8,he,h1⟩
  ·cases h
 ·obtain⟨_,_,h⟩:=map_some h;cases h
 ·split at h
  ·cases h
  ·split at h <;> cases h
theorem MN {ops:Array Oper} {o:Oper} {tmps:Array Value} (hg:sf ops o.guard=some none):Region.wanted o (yielded ops tmps)=true:=by
 have:o.guard=none:=by
  cases Cx:o.guard with
  | none=>rfl
  | some p=>
   obtain⟨j,b⟩:=p
   rw [Cx]at hg
   unfold sf at hg
   simp only at hg
   split at hg <;> cases hg
 simp [Region.wanted,this]
theorem Sem.Xu {a k b f:Nat} {is:List AI} {Q:Exit→Tm→St→Prop} {tm:Tm} {s:St}
 (aaL : ∀ act w,Holds B nt (tm.put (some a) (tm.get k)) s act w→Calls P f #[act.tmps.getD a Go.undef] w fun e w'=>∃ v,e = .returned v∧∃ bw s',Holds B nt bw s' (act.put (some b) v) w'∧gP P is (Q .normal) bw s') :
 Sem P B nt (.run (.op (some a) none (.mv (.s k)):: .call (some b) none f [.s a]::is)) Q tm s:=by
 intro c hc act w hh
 obtain⟨id,ops,rfl,hi⟩:=j7 hc
 refine wp_region ?_
 have key : ∀ (l:List Nat) (ol:List Oper),l.map (ops[·]?)=ol.map some→oV P nt ops ol=some (.op (some a) none (.mv (.s k)):: .call (some b) none f [.s a]::is)→wpOps P ops (nW B nt Q) l act w:=by
  intro l ol hl uu
  match ol,l,hl with
  | [],_,_=>simp [oV]at uu
  | o0::ol,[],hl=>simp at hl
  | o0::ol,j0::l,hl=>
   simp only [List.map_cons,List.cons.injEq]at hl
   obtain⟨hj0,hl⟩:=hl
   unfold oV at uu
   split at uu
   ·rename_i i0 is0 h1 h2
    cases uu
    match ol,l,hl,h2 with
    | [],_,_,h2=>simp [oV]at h2
    | o1::ol,[],hl,_=>simp at hl
    | o1::ol,j1::l,hl,h2=>
     simp only [List.map_cons,List.cons.injEq]at hl
     obtain⟨hj1,hl⟩:=hl
     unfold oV at h2
     split at h2
     ·rename_i i1 is1 h3 h4
      cases h2
      obtain⟨M,e,r,ht,hn,hd⟩:=hh
      have SE:=qL h1
      have hd1:=qL h3
      simp only [AI.dst]at SE hd1
      refine ur (K':=fun bw s'=>bw=tm.put (some a) (tm.get k)∧s'=s) hj0 h1 r (B.laid.ext e) ht (by simp only [gP,guarded,aP,X.ev,and_self]) (fun d v s1 w1 M1 hk e1 r1 hv=> ?_)
      obtain⟨sh,rfl⟩:=hk
      have hH:=Holds.put e ht hn hd (uY h1) e1 r1 hv
      simp only [AI.dst]at sh
      rw [← SE]at hH ⊢
      rw [sh]at hH
      obtain⟨g,hg,_,hb⟩:=xA h3
      obtain⟨rfl,args,mf,k8,vP,mN⟩:=Kb hb
      simp only [wpOps,hj1,MN hg,if_true]
      left
      have PE:args.map (act.put (some a) v).eval = #[(act.put (some a) v).tmps.getD a Go.undef]:=by
       have:args.toList = [.tmp a]:=by
        match hA:args.toList with
        | []=>rw [hA]at mN;simp [uU]at mN
        | [x]=>
         rw [hA]at mN
         simp only [uU]at mN
         split at mN
         ·rename_i x' r' hx hr
          cases mN
          rw [Ui hx]
         ·cases mN
        | x::y::z=>
         rw [hA]at mN
         simp only [uU]at mN
         split at mN
         ·rename_i x' r' hx hr
          cases mN
          split at hr
          ·cases hr
          ·cases hr
         ·cases mN
       have:args = #[.tmp a]:=by rw [← Array.toArray_toList (xs:=args),this]
       rw [this]
       simp only [List.map_toArray,List.map_cons,List.map_nil]
       rfl
      have hex:(execOp (act.put (some a) v).eval o1).run P w1 = .ok (.enter f #[(act.put (some a) v).tmps.getD a Go.undef]) w1:=by
       obtain⟨dst,op,type,pos,after,guard⟩:=o1
       simp only at k8
       subst k8
       rw [← PE]
       exact uj (act.put (some a) v).eval dst f args mf type pos after guard rfl vP w1
      unfold Oper.wp
      rw [hex,Oper.upon_enter]
      refine(aaL _ _ hH).mono ?_
      rintro en w' ⟨v',rfl,bw,s',hH',hvc⟩
      rw [← hd1]
      exact xq (Q:=Q) l ol _ hl h4 bw s' _ w' hvc hH'
     ·cases h2
   ·cases uu
 exact key _ _ (xr ops) hi
theorem C9 (hB:B.s = ⟨[],[]⟩) {tm:Tm} {s:St} {act:Act} {w:World} (h:Holds B nt tm s act w) {t:Nat} {l:List aB} (ht:s.aC[t]? = some (some l.length)) {k0:Nat} (Xg:tm.get k0 = .slice (.tok t) 1 (l.map encStr)) :
 (l = []∧∀ k,tm.get k = .slice (.tok t) 1 (l.map encStr)→(act.tmps.getD k Go.undef = .slice none 0 0∨∃ b q,act.tmps.getD k Go.undef = .slice (some ⟨b,q,none⟩) 0 0))∨
 ∃ (b cap:Nat) (vs:Array Value) (T:TypeId),(∀ k,tm.get k = .slice (.tok t) 1 (l.map encStr)→act.tmps.getD k Go.undef = .slice (some ⟨b,0,none⟩) l.length cap)∧l.length≤cap∧w.heap[b]? = some (.cells vs T (0,0))∧vs.size=cap∧B.w.heap.size≤b∧
  ∀ j (hj:j<l.length),vs[j]? = some (.string ⟨⟨l[j]⟩⟩):=by
 obtain⟨M,e,r,hr,_,_⟩:=h
 rcases r.tok t _ ht with ⟨h3,h4⟩ | ⟨b,cap,z,vs,T,h3,h4,h5,h6,h7⟩
 ·have hl:l = []:=List.eq_nil_of_length_eq_zero h4
  subst hl
  refine .inl ⟨rfl,fun k hk=> ?_⟩
  have hv:=hr k
  rw [hk]at hv
  generalize act.tmps.getD k Go.undef=v at hv
  cases hv with
  | iG _ _ cap hc nT=>subst hc;exact .inl rfl
  | slice _ _ _ b q cap hl hs h1 h2 nT=>
   rcases(nT.2 _ ht).2 rfl with ⟨_,h0,_⟩ | ⟨b',_,ju⟩
   ·subst h0;exact .inr ⟨b,q,rfl⟩
   ·rw [h3]at ju;cases ju
 ·right
  have each : ∀ k,tm.get k = .slice (.tok t) 1 (l.map encStr)→z=1∧act.tmps.getD k Go.undef = .slice (some ⟨b,0,none⟩) l.length cap∧l.length≤cap∧∀ j (hj:j<l.length),∃ u,M.G b j=some u∧RD M s (.str l[j]) u:=by
   intro k hk
   have hv:=hr k
   rw [hk]at hv
   generalize act.tmps.getD k Go.undef=v at hv
   generalize ke:l.map encStr=rows at hv
   cases hv with
   | iG _ _ cap hc nT=>
    have hl:l = []:=by cases l <;> simp at ke;rfl
    subst hl
    rcases(nT.2 _ ht).2 rfl with ⟨h0,_⟩ | ⟨b',h0,_⟩
    ·rw [h3]at h0;cases h0
    ·cases h0
   | slice _ _ _ b2 q aq5 hl hs h1 h2 nT=>
    subst ke
    rw [List.length_map]at hl nT
    rcases(nT.2 _ ht).2 rfl with ⟨h0,_⟩ | ⟨b',hb,ju⟩
    ·rw [h3]at h0;cases h0
    ·cases hb
     rw [h3]at ju
     cases ju
     refine⟨rfl,by rw [List.length_map],hl,fun j hj=> ?_⟩
     have e1:(l.map encStr)[j]? = some [.str l[j]]:=by rw [List.getElem?_map,List.getElem?_eq_getElem hj];rfl
     obtain⟨u,hu⟩:=h1 j _ 0 _ e1 rfl
     refine⟨u,by simpa using hu,h2 j _ 0 _ u e1 rfl hu⟩
  obtain⟨rfl,_,q5,kF⟩:=each k0 Xg
  have dN:B.w.heap.size≤b:=by
   rcases e.oT t b cap 1 ⟨_,ht⟩ h3 with ⟨⟨n,hn⟩,_⟩ | h
   ·rw [hB]at hn;simp at hn
   ·exact h
  refine⟨b,cap,vs,T,fun k hk=>(each k hk).2.1,q5,h4,by simpa [zs]using h5,dN,fun j hj=> ?_⟩
  obtain⟨u,hu,n7⟩:=kF j hj
  have:=(r.comm _ _ _ hu).1
  rw [jJ h4,n7.jS]at this
  exact this
theorem FE (hB:B.s = ⟨[],[]⟩) {tm:Tm} {s:St} {act rm:Act} {w w':World} (h:Holds B nt tm s act w) {b cap:Nat} {vs:Array Value} {T:TypeId} (er:vs.size=cap) (tF:B.w.heap.size≤b)
 (kD : ∀ q,q<B.w.heap.size→w'.heap[q]? = w.heap[q]?) (dW:w'.heap[b]? = some (.cells vs T (0,0))) (ek:w.heap.size≤w'.heap.size) (CH:w'.os=w.os) (Ag:w'.tape=w.tape) (NU:w'.output=w.output)
 {l:List aB} (hl:l.length≤cap) (kF : ∀ j (hj:j<l.length),vs[j]? = some (.string ⟨⟨l[j]⟩⟩)) {k:Nat} (Kc:rm.tmps.getD k Go.undef = .slice (some ⟨b,0,none⟩) l.length cap) (hn:rm.tmps.size=nt) (hd:rm.defers = []) :
 Holds B nt [(k, .slice (.tok 0) 1 (l.map encStr))] ⟨[],[some l.length]⟩ rm w':=by
 obtain⟨M,e,r,hr,_,_⟩:=h
 let M':Map:=⟨fun q o=>if q=b then(if o<l.length then(l[o]?).map fun x=>Value.string ⟨⟨x⟩⟩else none)else B.M.G q o,B.M.loc,fun _=>some (b,cap,1)⟩
 have hGb : ∀ q o v,B.M.G q o=some v→q<B.w.heap.size∧w'.cell? ⟨q,o,none⟩=some v∧v.oneCell'=true:=by
  intro q o v hq
  obtain⟨h1,h2⟩:=r.comm q o v (e.le.G q o v hq)
  have hF:=B.old q o v hq
  refine⟨hF, ?_,h2⟩
  rw [← h1]
  simp [World.cell?,kD q hF]
 have td : ∀ j (hj:j<l.length),w'.cell? ⟨b,j,none⟩=some (.string ⟨⟨l[j]⟩⟩):=fun j hj=>by rw [jJ dW];exact kF j hj
 have hP : ∀ (j:Nat) v,(if j<l.length then(l[j]?).map fun x=>Value.string ⟨⟨x⟩⟩else none)=some v→∃ hj:j<l.length,v = .string ⟨⟨l[j]⟩⟩:=by
  intro j v hv
  split at hv
  ·rename_i hj
   rw [List.getElem?_eq_getElem hj]at hv
   exact⟨hj,by simpa using hv.symm⟩
  ·cases hv
 refine⟨M',⟨⟨fun q o v hq=> ?_,by simp [hB],fun o ho=>rfl,by rw [hB];exact Nat.zero_le _,fun t n' ht _=>by rw [hB]at ht;exact absurd ht (Nat.not_lt_zero _)⟩,fun q hq _ _=> ?_,fun o _ h2=>absurd h2 (Nat.not_lt_zero _),fun t q c z _ hb=> ?_,fun q o fl=> ?_,Nat.le_trans e.size ek,CH.trans e.os,Ag.trans e.tape,NU.trans e.output⟩,
  ⟨fun q o v hq=> ?_,fun o ds ho=>by simp at ho,fun o ho=>absurd ho (Nat.not_lt_zero _),fun o o' ho=>absurd ho (Nat.not_lt_zero _),fun t n ht=> ?_,fun t q c z o _ _ ho=>absurd ho (Nat.not_lt_zero _),fun t t' q c z c' z' Ms ti _ _=> ?_⟩,fun u=> ?_,hn,hd⟩
 ·show(if q=b then _ else B.M.G q o)=some v
  rw [if_neg (by have:=(hGb q o v hq).1;omega)]
  exact hq
 ·rw [kD q hq]
  exact e.kept q hq (fun o ho=>by rw [hB]at ho;exact absurd ho (Nat.not_lt_zero _)) (fun t c z ti=>by rw [hB]at ti;obtain⟨n,wN⟩:=ti;simp at wN)
 ·cases hb;exact .inr tF
 ·by_cases hq:q=b
  ·subst hq;exact .inl tF
  ·exact absurd (show(if q=b then _ else B.M.G q o)=B.M.G q o from if_neg hq) fl
 ·have pM:(if q=b then(if o<l.length then(l[o]?).map fun x=>Value.string ⟨⟨x⟩⟩else none)else B.M.G q o)=some v:=hq
  by_cases Xv:q=b
  ·rw [if_pos Xv]at pM
   obtain⟨hj,rfl⟩:=hP o v pM
   rw [Xv]
   exact⟨td o hj,rfl⟩
  ·rw [if_neg Xv]at pM
   exact(hGb q o v pM).2
 ·match t with
  | 0=>
   simp at ht
   subst ht
   refine .inr ⟨b,cap,1,vs,T,rfl,dW,by simp [zs,er],hl,fun off ho=> ?_,fun h=>by cases h⟩
   show(if b=b then(if off<l.length then _ else none)else B.M.G b off)=none
   rw [if_pos rfl,if_neg (by simp [zs]at ho;omega)]
  | t+1=>simp at ht
 ·obtain⟨n1,h1⟩:=Ms
  obtain⟨n2,h2⟩:=ti
  have a1:=(List.getElem?_eq_some_iff.1 h1).1
  have a2:=(List.getElem?_eq_some_iff.1 h2).1
  simp at a1 a2
  omega
 ·simp only [Tm.get]
  split
  ·rename_i Xw
   subst Xw
   rw [Kc]
   have:=RD.slice (M:=M') (s:=⟨[],[some l.length]⟩) (.tok 0) 1 (l.map encStr) b 0 cap (by simpa using hl) (fun row hr=>by
    obtain⟨x,_,rfl⟩:=List.mem_map.1 hr;rfl) (fun i row j d e1 e2=> ?_) (fun i row j d u e1 e2 eu=> ?_) ⟨by simp,fun n wN=>by
    simp at wN
    subst wN
    exact⟨by simp,fun _=> .inr ⟨b,rfl,rfl⟩⟩⟩
   ·simpa using this
   ·rw [List.getElem?_map]at e1
    cases wH:l[i]? with
    | none=>rw [wH]at e1;cases e1
    | some x=>
     have oL:=(List.getElem?_eq_some_iff.1 wH).1
     rw [wH]at e1
     cases e1
     have hj:j=0:=by cases j with | zero=>rfl | succ j=>simp [encStr]at e2
     subst hj
     refine⟨.string ⟨⟨x⟩⟩, ?_⟩
     show(if b=b then(if 0+(i*1+0)<l.length then _ else none)else _)=_
     rw [if_pos rfl,if_pos (by omega)]
     simp [wH]
   ·rw [List.getElem?_map]at e1
    cases wH:l[i]? with
    | none=>rw [wH]at e1;cases e1
    | some x=>
     have oL:=(List.getElem?_eq_some_iff.1 wH).1
     rw [wH]at e1
     cases e1
     have hj:j=0:=by cases j with | zero=>rfl | succ j=>simp [encStr]at e2
     subst hj
     have Ho:(if b=b then(if 0+(i*1+0)<l.length then(l[0+(i*1+0)]?).map fun x=>Value.string ⟨⟨x⟩⟩else none)else B.M.G b (0+(i*1+0)))=some u:=eu
     rw [if_pos rfl,if_pos (by omega)]at Ho
     simp [wH]at Ho
     subst Ho
     simp [encStr]at e2
     subst e2
     exact .str x
  ·exact .junk _
theorem HC (hB:B.s = ⟨[],[]⟩) {tm:Tm} {s:St} {act rm:Act} {w:World} (h:Holds B nt tm s act w) {k:Nat} (Kc:rm.tmps.getD k Go.undef = .slice none 0 0∨∃ b q,rm.tmps.getD k Go.undef = .slice (some ⟨b,q,none⟩) 0 0) (hn:rm.tmps.size=nt) (hd:rm.defers = []) :
 Holds B nt [(k, .slice (.tok 0) 1 (([] : List aB).map encStr))] ⟨[],[some 0]⟩ rm w:=by
 obtain⟨M,e,r,hr,_,_⟩:=h
 let M':Map:=⟨B.M.G,B.M.loc,fun _=>none⟩
 refine⟨M',⟨⟨fun q o v hq=>hq,by simp [hB],fun o ho=>rfl,by rw [hB];exact Nat.zero_le _,fun t n' ht _=>by rw [hB]at ht;exact absurd ht (Nat.not_lt_zero _)⟩,fun q hq _ _=> ?_,fun o _ h2=>absurd h2 (Nat.not_lt_zero _),fun t q c z _ hb=>(by cases hb),fun q o fl=>absurd rfl fl,e.size,e.os,e.tape,e.output⟩,
  ⟨fun q o v hq=>r.comm q o v (e.le.G q o v hq),fun o ds ho=>by simp at ho,fun o ho=>absurd ho (Nat.not_lt_zero _),fun o o' ho=>absurd ho (Nat.not_lt_zero _),fun t n ht=> ?_,fun t q c z o _ _ ho=>absurd ho (Nat.not_lt_zero _),fun t t' q c z c' z' Ms ti h1 _=>by cases h1⟩,fun u=> ?_,hn,hd⟩
 ·exact e.kept q hq (fun o ho=>by rw [hB]at ho;exact absurd ho (Nat.not_lt_zero _)) (fun t c z ti=>by rw [hB]at ti;obtain⟨n,wN⟩:=ti;simp at wN)
 ·match t with
  | 0=>simp at ht;subst ht;exact .inl ⟨rfl,rfl⟩
  | t+1=>simp at ht
 ·simp only [Tm.get]
  split
  ·rename_i Xw
   subst Xw
   have nT : ∀ base,gL M' ⟨[],[some 0]⟩ (.tok 0) 1 0 base 0:=fun base=>⟨by simp,fun n wN=>by
    simp at wN
    subst wN
    exact⟨Nat.le_refl _,fun _=> .inl ⟨rfl,rfl,fun h=>by cases h⟩⟩⟩
   rcases Kc with h | ⟨b,q,h⟩
   ·rw [h];exact .iG _ _ 0 rfl (nT none)
   ·rw [h];exact .slice (.tok 0) 1 [] b q 0 (Nat.le_refl _) (by simp) (by simp) (by simp) (nT _)
  ·exact .junk _
theorem FF {α:Type} [Inhabited α] (enc:α→Value) (d:Array α) (c:Array Value) (j:Nat):(Sort.putCells enc 0 d c)[j]? = if j<d.size then(c[j]?).map fun _=>enc d[j]! else c[j]? :=by
 simp only [Sort.putCells,Array.getElem?_mapIdx]
 cases h:c[j]? with
 | none=>simp
 | some x=>by_cases hj:j<d.size <;> simp [hj]
theorem Da {w:World} {b n cap:Nat} {vs:Array Value} {T:TypeId} (dW:w.heap[b]? = some (.cells vs T (0,0))) (er:vs.size=cap) (l:List aB) (hl:l.length≤cap) (os:Array Obj) :
 (∀ q,q≠b→q<w.heap.size→(Sort.grow (Sort.putRow Go.Proofs.encStr (Sort.ahead w n) b 0 l.toArray) os).heap[q]? = w.heap[q]?)∧
 (Sort.grow (Sort.putRow Go.Proofs.encStr (Sort.ahead w n) b 0 l.toArray) os).heap[b]? = some (.cells (Sort.putCells Go.Proofs.encStr 0 l.toArray vs) T (0,0))∧w.heap.size≤(Sort.grow (Sort.putRow Go.Proofs.encStr (Sort.ahead w n) b 0 l.toArray) os).heap.size∧
 (Sort.putCells Go.Proofs.encStr 0 l.toArray vs).size=cap∧∀ j (hj:j<l.length),(Sort.putCells Go.Proofs.encStr 0 l.toArray vs)[j]? = some (.string ⟨⟨l[j]⟩⟩):=by
 have hb:b<w.heap.size:=(Array.getElem?_eq_some_iff.1 dW).1
 refine⟨fun q hq hF=> ?_, ?_, ?_, ?_,fun j hj=> ?_⟩
 ·simp only [Sort.grow,Sort.putRow,Sort.mapBlock,Sort.ahead]
  rw [Array.getElem?_append_left (by simpa using hF),Array.getElem?_modify]
  simp [Ne.symm hq]
 ·simp only [Sort.grow,Sort.putRow,Sort.mapBlock,Sort.ahead]
  rw [Array.getElem?_append_left (by simpa using hb),Array.getElem?_modify]
  simp [dW,Sort.onCells]
 ·simp [Sort.grow,Sort.putRow,Sort.mapBlock,Sort.ahead]
 ·simp [Sort.putCells,er]
 ·rw [FF]
  have h1:j<l.toArray.size:=by simpa using hj
  have h2:vs[j]? = some vs[j]:=Array.getElem?_eq_getElem (by omega)
  rw [if_pos h1,h2]
  simp [hj]
def kO (l:List aB):List aB:=l.mergeSort fun x y=>decide (x≤y)
theorem FG {act:Act} {b:Nat} {v:Value} {u:Nat} (h:u≠b):(act.put (some b) v).tmps.getD u Go.undef=act.tmps.getD u Go.undef:=by
 simp only [Act.put,Array.getD_eq_getD_getElem?]
 rw [Array.getElem?_setIfInBounds_ne (fun e=>h e.symm)]
theorem Db {act:Act} {b:Nat} {v:Value} (h:b<act.tmps.size):(act.put (some b) v).tmps.getD b Go.undef=v:=by
 simp only [Act.put,Array.getD_eq_getD_getElem?]
 simp [h]
theorem Sem.sort (hB:B.s = ⟨[],[]⟩) {a k b t:Nat} {l:List aB} {is:List AI} {Q:Exit→Tm→St→Prop} {tm:Tm} {s:St} (hak:a≠k) (hbk:b≠k) (Sx:a≠b)
 (hk:tm.get k = .slice (.tok t) 1 (l.map encStr)) (ht:s.aC[t]? = some (some l.length)) (hl:l.length<4611686018427387904)
 (h:gP Tryz.prog is (Q .normal) [(k, .slice (.tok 0) 1 ((kO l).map encStr))] ⟨[],[some l.length]⟩) :
 Sem Tryz.prog B nt (.run (.op (some a) none (.mv (.s k)):: .call (some b) none hO [.s a]::is)) Q tm s:=by
 refine Sem.Xu fun act w hh=> ?_
 have wC:(tm.put (some a) (tm.get k)).get k = .slice (.tok t) 1 (l.map encStr):=by rw [Tm.jU,if_neg (by simpa using hak)];exact hk
 have FH:(tm.put (some a) (tm.get k)).get a = .slice (.tok t) 1 (l.map encStr):=by rw [Tm.jU,if_pos rfl];exact hk
 have Bb:(kO l).length=l.length:=List.length_mergeSort l
 have hn:(act.put (some b) (.tuple #[])).tmps.size=nt:=by obtain⟨_,_,_,_,h1,_⟩:=hh;simpa [Act.put]using h1
 have hd:(act.put (some b) (.tuple #[])).defers = []:=by obtain⟨_,_,_,_,_,h1⟩:=hh;simpa [Act.put]using h1
 have er:(act.tmps).size=nt:=by obtain⟨_,_,_,_,h1,_⟩:=hh;exact h1
 rcases C9 hB hh ht FH with ⟨rfl,hv⟩ | ⟨b',cap,vs,T,hv,q5,dW,qI,tF,kF⟩
 ·rw [show kO [] = [] by simp [kO]]at h
  have call : ∀ p,act.tmps.getD a Go.undef = .slice p 0 0→Calls Tryz.prog hO #[act.tmps.getD a Go.undef] w fun e w'=>∃ v,e = .returned v∧∃ bw s',Holds B nt bw s' (act.put (some b) v) w'∧gP Tryz.prog is (Q .normal) bw s':=by
   intro p hp
   rw [hp]
   refine(Tryz.slices_Sort_string_none p 0 w).mono ?_
   rintro e w' ⟨rfl,rfl⟩
   refine⟨_,rfl,_,_,HC hB hh (k:=k) ?_ hn hd,h⟩
   rw [FG (Ne.symm hbk)]
   exact hv k wC
  rcases hv a FH with h1 | ⟨b',q,h1⟩
  ·exact call _ h1
  ·exact call _ h1
 ·rw [hv a FH]
  have hF:b'<w.heap.size:=(Array.getElem?_eq_some_iff.1 dW).1
  refine(Tryz.slices_Sort_string b' 0 cap l w (fun j hj=> ?_) hF hl).mono ?_
  ·have MO:j<l.length:=by simpa using hj
   refine⟨?_,by simp [World.frozen?,dW]⟩
   rw [Nat.zero_add,jJ dW,kF j MO]
   simp [MO]
  ·rintro e w' ⟨rfl,n,os,rfl⟩
   obtain⟨p1,p2,p3,p4,p5⟩:=Da (n:=n) dW qI (kO l) (by omega) os
   have hH:=FE hB hh (rm:=act.put (some b) (.tuple #[])) (l:=kO l) (k:=k) p4 tF (fun q hq=>p1 q (by omega) (by obtain⟨M,e,_⟩:=hh;exact Nat.lt_of_lt_of_le hq e.size)) p2 p3 rfl rfl rfl (by omega) p5 (by rw [FG (Ne.symm hbk),hv k wC,Bb]) hn hd
   rw [Bb]at hH
   exact⟨_,rfl,_,_,hH,h⟩
theorem G0 (l:List aB):(Lib.compact l).length≤l.length:=by
 unfold Lib.compact Lib.compactUpTo
 rw [List.length_map]
 exact Nat.le_trans (List.length_filter_le _ _) (by simp)
theorem Sem.compact (hB:B.s = ⟨[],[]⟩) {a k b t:Nat} {l:List aB} {is:List AI} {Q:Exit→Tm→St→Prop} {tm:Tm} {s:St} (hbt:b<nt)
 (hk:tm.get k = .slice (.tok t) 1 (l.map encStr)) (ht:s.aC[t]? = some (some l.length)) (hl:l.length<4611686018427387904)
 (h:gP Tryz.prog is (Q .normal) [(b, .slice (.tok 0) 1 ((Lib.compact l).map encStr))] ⟨[],[some (Lib.compact l).length]⟩) :
 Sem Tryz.prog B nt (.run (.op (some a) none (.mv (.s k)):: .call (some b) none iB [.s a]::is)) Q tm s:=by
 refine Sem.Xu fun act w hh=> ?_
 have FH:(tm.put (some a) (tm.get k)).get a = .slice (.tok t) 1 (l.map encStr):=by rw [Tm.jU,if_pos rfl];exact hk
 have er:(act.tmps).size=nt:=by obtain⟨_,_,_,_,h1,_⟩:=hh;exact h1
 have hn : ∀ v,(act.put (some b) v).tmps.size=nt:=fun v=>by simpa [Act.put]using er
 have hd : ∀ v,(act.put (some b) v).defers = []:=by obtain⟨_,_,_,_,_,h1⟩:=hh;intro v;simpa [Act.put]using h1
 rcases C9 hB hh ht FH with ⟨rfl,hv⟩ | ⟨b',cap,vs,T,hv,q5,dW,qI,tF,kF⟩
 ·rw [show Lib.compact ([] : List aB) = []from rfl]at h
  have call : ∀ p,act.tmps.getD a Go.undef = .slice p 0 0→(p=none∨∃ b q,p=some ⟨b,q,none⟩)→Calls Tryz.prog iB #[act.tmps.getD a Go.undef] w fun e w'=>∃ v,e = .returned v∧∃ bw s',Holds B nt bw s' (act.put (some b) v) w'∧gP Tryz.prog is (Q .normal) bw s':=by
   intro p hp hq
   rw [hp]
   refine(Tryz.slices_Compact_string_empty p 0 w).mono ?_
   rintro e w' ⟨rfl,rfl⟩
   refine⟨_,rfl,_,_,HC hB hh (k:=b) ?_ (hn _) (hd _),h⟩
   rw [Db (by omega)]
   rcases hq with rfl | ⟨x,y,rfl⟩
   ·exact .inl rfl
   ·exact .inr ⟨x,y,rfl⟩
  rcases hv a FH with h1 | ⟨b',q,h1⟩
  ·exact call _ h1 (.inl rfl)
  ·exact call _ h1 (.inr ⟨b',q,rfl⟩)
 ·rw [hv a FH]
  have wF:(Lib.compact l).length≤l.length:=G0 l
  refine(Tryz.slices_Compact_string b' 0 cap l w (fun j hj=> ?_) (by omega) q5).mono ?_
  ·have MO:j<l.length:=by simpa using hj
   refine⟨?_,by simp [World.frozen?,dW]⟩
   rw [Nat.zero_add,jJ dW,kF j MO]
   simp [MO]
  ·rintro e w' ⟨rfl,q,rfl⟩
   obtain⟨p1,p2,p3,p4,p5⟩:=Da (n:=q) dW qI (Lib.compact l++List.replicate (l.length - (Lib.compact l).length) []) (by simp;omega) #[]
   rw [Sort.grow_empty]at p1 p2 p3
   have hH:=FE hB hh (rm:=act.put (some b) (.slice (some ⟨b',0,none⟩) (Lib.compact l).length cap)) (l:=Lib.compact l) (k:=b) p4 tF (fun q hq=>p1 q (by omega) (by obtain⟨M,e,_⟩:=hh;exact Nat.lt_of_lt_of_le hq e.size)) p2 p3 rfl rfl rfl (by omega)
    (fun j hj=>by
     have:=p5 j (by simp;omega)
     rw [List.getElem_append_left hj]at this
     exact this) (Db (by omega)) (hn _) (hd _)
   exact⟨_,rfl,_,_,hH,h⟩
end
end Go.Abs

/-! SrtP -/

namespace Go.Abs
theorem Bc {a b:UInt8} : a<b↔a.toNat<b.toNat:=UInt8.lt_iff_toNat_lt
theorem vy : ∀ a:aB,bytesLess a a=false
 | []=>rfl
 | x::a=>by
  show Go.Op.bytesLess (x::a) (x::a)=false
  have h:=vy a
  have h:Go.Op.bytesLess a a=false:=h
  simp [Go.Op.bytesLess,h]
theorem vz : ∀ a b:aB,bytesLess a b=true∨a=b∨bytesLess b a=true
 | [],[]=> .inr (.inl rfl)
 | [],y::b=> .inl rfl
 | x::a,[]=> .inr (.inr rfl)
 | x::a,y::b=>by
  show Go.Op.bytesLess (x::a) (y::b)=true∨_∨Go.Op.bytesLess (y::b) (x::a)=true
  have h:Go.Op.bytesLess a b=true∨a=b∨Go.Op.bytesLess b a=true:=vz a b
  simp only [Go.Op.bytesLess,Bool.or_eq_true,Bool.and_eq_true,decide_eq_true_eq,beq_iff_eq,List.cons.injEq]
  by_cases e:x=y
  ·subst e
   rcases h with h | h | h
   ·exact .inl (.inr ⟨rfl,h⟩)
   ·exact .inr (.inl ⟨rfl,h⟩)
   ·exact .inr (.inr (.inr ⟨rfl,h⟩))
  ·have:x.toNat≠y.toNat:=fun h=>e (UInt8.toNat_inj.1 h)
   rcases Nat.lt_or_gt_of_ne this with h | h
   ·exact .inl (.inl (Bc.2 h))
   ·exact .inr (.inr (.inl (Bc.2 h)))
theorem Bd : ∀ a b c:aB,bytesLess a b=true→bytesLess b c=true→bytesLess a c=true
 | a,b,[],h1,h2=>by cases b <;> cases h2
 | a,[],z::c,h1,h2=>by cases a <;> cases h1
 | [],y::b,z::c,h1,h2=>rfl
 | x::a,y::b,z::c,h1,h2=>by
  have h1:Go.Op.bytesLess (x::a) (y::b)=true:=h1
  have h2:Go.Op.bytesLess (y::b) (z::c)=true:=h2
  show Go.Op.bytesLess (x::a) (z::c)=true
  simp only [Go.Op.bytesLess,Bool.or_eq_true,Bool.and_eq_true,decide_eq_true_eq,beq_iff_eq]at h1 h2 ⊢
  rcases h1 with e1 | ⟨i1,e1⟩
  ·rcases h2 with e2 | ⟨i2,e2⟩
   ·exact .inl (Bc.2 (Nat.lt_trans (Bc.1 e1) (Bc.1 e2)))
   ·exact .inl (i2 ▸ e1)
  ·rcases h2 with e2 | ⟨i2,e2⟩
   ·exact .inl (i1 ▸ e2)
   ·exact .inr ⟨i1.trans i2,Bd a b c e1 e2⟩
def x4 (l:List aB):Prop:=l.Pairwise fun a b=>bytesLess a b=true
theorem uN : ∀ {a b:List aB},x4 a→x4 b→(∀ x,x∈a↔x∈b)→a=b
 | [],[],_,_,_=>rfl
 | [],y::b,_,_,h=>absurd ((h y).2 List.mem_cons_self) (by simp)
 | x::a,[],_,_,h=>absurd ((h x).1 List.mem_cons_self) (by simp)
 | x::a,y::b,h1,h2,h=>by
  obtain⟨g1,g2⟩:=List.pairwise_cons.1 h1
  obtain⟨g3,g4⟩:=List.pairwise_cons.1 h2
  have e:x=y:=by
   rcases List.mem_cons.1 ((h x).1 List.mem_cons_self)with e | m
   ·exact e
   ·rcases List.mem_cons.1 ((h y).2 List.mem_cons_self)with e | m'
    ·exact e.symm
    ·have:=Bd _ _ _ (g3 x m) (g1 y m');rw [vy]at this;cases this
  subst e
  rw [uN g2 g4 fun z=> ?_]
  constructor
  ·intro m
   rcases List.mem_cons.1 ((h z).1 (List.mem_cons_of_mem _ m))with e | m'
   ·subst e;have:=g1 z m;rw [vy]at this;cases this
   ·exact m'
  ·intro m
   rcases List.mem_cons.1 ((h z).2 (List.mem_cons_of_mem _ m))with e | m'
   ·subst e;have:=g3 z m;rw [vy]at this;cases this
   ·exact m'
theorem rU (out:List aB) : ∀ (l:List aB) (c:aB) (a:Bool),
 let q:=lK out l c a
 (q.2=false↔a=false∧∀ x∈l,x∈out)∧(q.2=true→((a=true∧q.1=c)∨(q.1∈l∧q.1∉out))∧(a=true→bytesLess c q.1=false)∧∀ x∈l,x∉out→bytesLess x q.1=false)
 | [],c,a=>by
  simp only [lK]
  refine⟨by simp,fun h=>⟨.inl ⟨h,by trivial⟩,fun _=>vy c,fun x m=>(by cases m)⟩⟩
 | s::l,c,a=>by
  simp only [lK]
  by_cases h1:eC out s=true
  ·have m:=(iN _ _).1 h1
   simp only [h1,Bool.not_true,Bool.false_and,Bool.false_eq_true,if_false]
   obtain⟨k1,k2⟩:=rU out l c a
   refine⟨k1.trans ⟨fun h=>⟨h.1,fun x hx=> ?_⟩,fun h=>⟨h.1,fun x hx=>h.2 x (List.mem_cons_of_mem _ hx)⟩⟩,fun h=> ?_⟩
   ·rcases List.mem_cons.1 hx with rfl | hx
    ·exact m
    ·exact h.2 x hx
   ·obtain⟨g1,g2,g3⟩:=k2 h
    refine⟨g1.imp_right fun h=>⟨List.mem_cons_of_mem _ h.1,h.2⟩,g2,fun x hx hn=> ?_⟩
    rcases List.mem_cons.1 hx with rfl | hx
    ·exact absurd m hn
    ·exact g3 x hx hn
  ·have m:s∉out:=fun m=>h1 ((iN _ _).2 m)
   have pP:eC out s=false:=by simpa using h1
   by_cases h2:(!a || bytesLess s c)=true
   ·simp only [pP,h2,Bool.not_false,Bool.and_self,if_true]
    obtain⟨k1,k2⟩:=rU out l s true
    refine⟨⟨fun h=>absurd (k1.1 h).1 (by simp),fun h=>absurd (h.2 s List.mem_cons_self) m⟩,fun h=> ?_⟩
    obtain⟨g1,g2,g3⟩:=k2 h
    have g4:=g2 rfl
    refine⟨.inr ?_,fun ha=> ?_,fun x hx hn=> ?_⟩
    ·rcases g1 with ⟨_,e⟩ | g1
     ·rw [e];exact⟨List.mem_cons_self,m⟩
     ·exact⟨List.mem_cons_of_mem _ g1.1,g1.2⟩
    ·have h3:bytesLess s c=true:=by simpa [ha]using h2
     cases hh:bytesLess c (lK out l s true).1
     ·rfl
     ·have:=Bd _ _ _ h3 hh;rw [g4]at this;cases this
    ·rcases List.mem_cons.1 hx with rfl | hx
     ·exact g4
     ·exact g3 x hx hn
   ·have u5:(!a || bytesLess s c)=false:=by simpa using h2
    have ha:a=true:=by cases a <;> simp_all
    have h3:bytesLess s c=false:=by cases a <;> simp_all
    simp only [pP,u5,Bool.not_false,Bool.and_false,Bool.false_eq_true,if_false]
    obtain⟨k1,k2⟩:=rU out l c a
    refine⟨⟨fun h=>absurd (k1.1 h).1 (by simp [ha]),fun h=>absurd h.1 (by simp [ha])⟩,fun h=> ?_⟩
    obtain⟨g1,g2,g3⟩:=k2 h
    refine⟨g1.imp_right fun h=>⟨List.mem_cons_of_mem _ h.1,h.2⟩,g2,fun x hx hn=> ?_⟩
    rcases List.mem_cons.1 hx with rfl | hx
    ·cases hh:bytesLess x (lK out l c a).1
     ·rfl
     ·have g4:=g2 ha
      rcases vz x c with e | e | e
      ·rw [h3]at e;cases e
      ·subst e;rw [g4]at hh;cases hh
      ·have:=Bd _ _ _ e hh;rw [g4]at this;cases this
    ·exact g3 x hx hn
theorem uO (l:List aB) : ∀ (n:Nat) (out:List aB),x4 out→(∀ x∈out,x∈l)→(∀ x∈out,∀ y∈l,y∉out→bytesLess x y=true)→
 x4 (nP l n out)∧(∀ x∈nP l n out,x∈l)∧(∀ x∈out,x∈nP l n out)∧((∀ x∈l,x∈nP l n out)∨(nP l n out).length=out.length+n)
 | 0,out,h1,h2,h3=>⟨h1,h2,fun x m=>m, .inr rfl⟩
 | n+1,out,h1,h2,h3=>by
  simp only [nP,MM]
  obtain⟨k1,k2⟩:=rU out l [] false
  cases hq:(lK out l [] false).2
  ·simp only [Bool.false_eq_true,if_false]
   obtain⟨g1,g2,g3,g4⟩:=uO l n out h1 h2 h3
   exact⟨g1,g2,g3, .inl fun x m=>g3 x ((k1.1 hq).2 x m)⟩
  ·simp only [if_true]
   obtain⟨g1,_,g3⟩:=k2 hq
   have g1:(lK out l [] false).1∈l∧(lK out l [] false).1∉out:=by
    rcases g1 with ⟨h,_⟩ | g1
    ·cases h
    ·exact g1
   generalize (lK out l [] false).1=c at g1 g3
   obtain⟨r1,r2,r3,r4⟩:=uO l n (out++ [c])
    (by
     refine List.pairwise_append.2 ⟨h1,by simp,fun x hx y hy=> ?_⟩
     have:y=c:=by simpa using hy
     subst this
     exact h3 x hx y g1.1 g1.2)
    (fun x hx=>by
     rcases List.mem_append.1 hx with hx | hx
     ·exact h2 x hx
     ·have:x=c:=by simpa using hx
      subst this;exact g1.1)
    (fun x hx y hy hn=>by
     have hyo:y∉out:=fun m=>hn (List.mem_append_left _ m)
     have hyc:y≠c:=fun e=>hn (List.mem_append_right _ (by simp [e]))
     rcases List.mem_append.1 hx with hx | hx
     ·exact h3 x hx y hy hyo
     ·have:x=c:=by simpa using hx
      subst this
      rcases vz x y with h | h | h
      ·exact h
      ·exact absurd h.symm hyc
      ·rw [g3 y hy hyo]at h;cases h)
   refine⟨r1,r2,fun x m=>r3 x (List.mem_append_left _ m),r4.imp_right fun h=> ?_⟩
   rw [h];simp;omega
theorem tU : ∀ (a l:List aB),a.Nodup→(∀ x∈a,x∈l)→a.length≤l.length
 | [],l,_,_=>Nat.zero_le _
 | x::a,l,h,hm=>by
  obtain⟨h1,h2⟩:=List.nodup_cons.1 h
  have m:=hm x List.mem_cons_self
  have:=tU a (l.erase x) h2 fun y hy=>(List.mem_erase_of_ne (fun e=>h1 (by rw [← e];exact hy))).2 (hm y (List.mem_cons_of_mem _ hy))
  rw [List.length_erase_of_mem m]at this
  have:0<l.length:=List.length_pos_of_mem m
  simp only [List.length_cons];omega
theorem rV {l:List aB} (h:x4 l):l.Nodup:=h.imp fun {a b} h e=>by subst e;rw [vy]at h;cases h
theorem kP (l:List aB):x4 (iS l)∧∀ x,x∈iS l↔x∈l:=by
 obtain⟨h1,h2,h3,h4⟩:=uO l l.length [] List.Pairwise.nil (fun x m=>(by cases m)) (fun x m=>(by cases m))
 refine⟨h1,fun x=>⟨h2 x,fun m=> ?_⟩⟩
 rcases h4 with h4 | h4
 ·exact h4 x m
 ·refine Classical.byContradiction fun hn=> ?_
  have:=tU (x::nP l l.length []) l (List.nodup_cons.2 ⟨hn,rV h1⟩) fun y hy=>by
   rcases List.mem_cons.1 hy with rfl | hy
   ·exact m
   ·exact h2 y hy
  simp only [List.length_cons,h4,List.length_nil]at this
  omega
theorem G2 (zs:List aB) (hs:zs.Pairwise fun a b=>bytesLess b a=false) : ∀ m,m≤zs.length→
 x4 (Lib.compactUpTo zs.toArray m)∧(∀ x,x∈Lib.compactUpTo zs.toArray m↔x∈zs.take m):=by
 intro m
 induction m with
 | zero=>intro _;exact⟨by simp [Lib.compactUpTo,x4],fun x=>by simp [Lib.compactUpTo]⟩
 | succ m ih=>
  intro hm
  obtain⟨h1,h2⟩:=ih (by omega)
  have hz:zs[m]? = some zs[m]:=List.getElem?_eq_getElem (by omega)
  have e1:zs.toArray[m]! = zs[m]:=by simp [hm,Nat.lt_of_succ_le hm]
  have et:zs.take (m+1)=zs.take m++ [zs[m]]:=by rw [List.take_add_one,hz];rfl
  rw [Lib.compactUpTo_succ,e1,et]
  by_cases hk:Lib.keeps zs.toArray m=true
  ·rw [if_pos hk]
   refine⟨List.pairwise_append.2 ⟨h1,by simp,fun x hx y hy=> ?_⟩,fun x=>by rw [List.mem_append,List.mem_append,h2]⟩
   have hy:y=zs[m]:=by simpa using hy
   subst hy
   have hx:=(h2 x).1 hx
   simp only [Lib.keeps,decide_eq_true_eq]at hk
   rcases hk with rfl | hk
   ·simp at hx
   ·have Fy:m - 1<zs.length:=by omega
    have e2:zs.toArray[m - 1]! = zs[m - 1]:=by simp [Fy]
    rw [e1,e2]at hk
    have h0:0<m:=by
     cases m with
     | zero=>simp at hx
     | succ m=>omega
    have hle : ∀ i j (hi:i<zs.length) (hj:j<zs.length),i<j→bytesLess zs[j] zs[i] = false:=fun i j hi hj QP=>List.pairwise_iff_getElem.1 hs i j hi hj QP
    have g1:bytesLess zs[m] zs[m - 1] = false:=hle (m - 1) m Fy (by omega) (by omega)
    have g2:bytesLess zs[m - 1] zs[m] = true:=by
     rcases vz zs[m - 1] zs[m]with h | h | h
     ·exact h
     ·exact absurd h.symm hk
     ·rw [g1]at h;cases h
    obtain⟨i,hi,rfl⟩:=List.mem_iff_getElem.1 hx
    rw [List.length_take]at hi
    rw [List.getElem_take]
    by_cases yM:i=m - 1
    ·subst yM;exact g2
    ·have g3:=hle i (m - 1) (by omega) Fy (by omega)
     rcases vz zs[i] zs[m - 1]with h | h | h
     ·exact Bd _ _ _ h g2
     ·rw [h];exact g2
     ·rw [g3]at h;cases h
  ·rw [if_neg hk]
   simp only [List.append_nil]
   refine⟨h1,fun x=> ?_⟩
   rw [h2]
   simp only [Lib.keeps,decide_eq_true_eq,not_or,ne_eq,Decidable.not_not]at hk
   obtain⟨k1,k2⟩:=hk
   have Fy:m - 1<zs.length:=by omega
   have e2:zs.toArray[m - 1]! = zs[m - 1]:=by simp [Fy]
   rw [e1,e2]at k2
   simp only [List.mem_append,List.mem_singleton]
   constructor
   ·exact .inl
   ·rintro(h | rfl)
    ·exact h
    ·rw [k2]
     exact List.mem_iff_getElem.2 ⟨m - 1,by rw [List.length_take];omega,by rw [List.getElem_take]⟩
theorem Dc (l:List aB):(kO l).Pairwise fun a b=>bytesLess b a=false:=by
 have h:=List.pairwise_mergeSort (le:=fun x y:aB=>decide (x≤y)) (fun a b c h1 h2=> ?_) (fun a b=> ?_) l
 ·refine h.imp fun {a b} h=> ?_
  rw [decide_eq_true_eq]at h
  show Go.Op.bytesLess b a=false
  rw [Go.Proofs.bytesLess_eq]
  simpa using h
 ·rw [decide_eq_true_eq]at h1 h2 ⊢
  exact List.le_trans h1 h2
 ·have:=List.le_total a b
  simpa using this
theorem x5 (l:List aB):Lib.compact (kO l)=iS l:=by
 obtain⟨h1,h2⟩:=G2 (kO l) (Dc l) (kO l).length (Nat.le_refl _)
 obtain⟨h3,h4⟩:=kP l
 refine uN h1 h3 fun x=> ?_
 rw [h4]
 refine(h2 x).trans ?_
 rw [List.take_length]
 exact(List.mergeSort_perm _ _).mem_iff
end Go.Abs

/-! Tc1 -/

namespace Go.Abs
set_option maxRecDepth 8000
open Go.Proofs
def kA:List Sm→List aB
 | []=> []
 | v::l=>if v.kind==4 then v.proc::kA l else kA l
theorem za : ∀ l:List Sm,(kA l).length≤l.length
 | []=>Nat.le_refl _
 | v::l=>by
  simp only [kA]
  have:=za l
  split <;> simp <;> omega
def Pc.calls (f:Pc):List aB:=iS (kA (Sm.dG f.body))
theorem x6 {name:aB} : ∀ {l:List Pc} {k:Nat} {f:Pc},jG name l=some f→∃ j,l[j]? = some f∧k6 (fun f:Pc=>f.name==name) (k:Int) l=((k+j:Nat):Int)
 | g::l,k,f,h=>by
  simp only [jG]at h
  cases e:(g.name==name)
  ·rw [e]at h
   simp only [Bool.false_eq_true,if_false]at h
   obtain⟨j,h1,h2⟩:=x6 (k:=k+1) h
   refine⟨j+1,by simpa using h1, ?_⟩
   simp only [k6,e,Bool.false_eq_true,if_false]
   rw [show((k:Int)+1)=((k+1:Nat):Int)from rfl,h2]
   congr 1;omega
  ·rw [e]at h
   simp only [if_true,Option.some.injEq]at h
   exact⟨0,by simpa using h,by simp [k6,e]⟩
theorem Uj {p:Pg} (h:p.jO) {name:aB} {f:Pc} (hf:p.find name=some f) (s:St):aD Tryz.prog ri [.dC (gC p) 0, .str name] s (.slice .shared 1 (f.calls.map encStr)) s:=by
 refine aD.pure ?_ (by simp [D.bH,D.ok,wa]) (by simp only [D.ok,Tag.ok,eH];rfl) s
 obtain⟨sj,rC,wP⟩:=h.procs
 obtain⟨j,hj,rq⟩:=x6 (k:=0) hf
 have rq:p.at name=((j:Nat):Int):=by unfold Pg.at;simpa using rq
 have yY:=fun s=>Mq (p:=p) (by omega) name s
 rw [rq]at yY
 obtain⟨it,vv,A8⟩:=PJ hj (by omega)
 have Xo:it.length≤900000:=by
  have e:=congrArg List.length vv
  obtain⟨a,b,e',_,_,e3,e4⟩:=(oO p).2 j f hj
  have e5:=oP p
  have e6:=congrArg List.length e3
  rw [e4]at e5
  simp only [List.length_map,List.length_append]at e e5 e6
  omega
 unfold S0
 obtain⟨fn,wR,yZ⟩:=AP
 refine aD.intro ⟨fn,wR,yZ⟩ (Nat.le_of_ble_eq_true rfl) fun B hB=> ?_
 generalize hQ:gS (⟨[],[]⟩:St).aw.length (⟨[],[]⟩:St).aC.length _ _ (⟨[],[]⟩:St)=Q
 have⟨hF,hP,hY,hZ⟩:=bt
 refine Sem.jB ?_
 repeat' (first
 | simp only [go_sem,hF,hP,hY,hZ]
 | (with_reducible refine aH hQ ?_;simp only [az,aA,Option.some.injEq,exists_eq_left',go_sem,hF,hP,hY,hZ];repeat' (first | exact Ok.out | with_reducible refine aE ?_ ?_ | (simp;done))))
 refine Sem.jB ?_
 repeat' (first
 | simp only [go_sem,hF,hP,hY,hZ]
 | (with_reducible refine aH hQ ?_;simp only [az,aA,Option.some.injEq,exists_eq_left',go_sem,hF,hP,hY,hZ];repeat' (first | exact Ok.out | with_reducible refine aE ?_ ?_ | (simp;done))))
 refine Sem.jB ?_
 repeat' (first
 | simp only [go_sem,hF,hP,hY,hZ]
 | (with_reducible refine CU (yY _) ?_)
 | (with_reducible refine CU (A8 _) ?_)
 | (with_reducible refine aH hQ ?_;simp only [az,aA,Option.some.injEq,exists_eq_left',go_sem,hF,hP,hY,hZ];repeat' (first | exact Ok.out | with_reducible refine aE ?_ ?_ | (simp;done))))
 refine bm.oD 5 1 rfl ?_
 simp only [go_sem,hF,hP,hY,hZ]
 obtain⟨R,hR⟩ : ∃ R,R=kA (Sm.dG f.body):=⟨_,rfl⟩
 have hRl:R.length≤900000:=by rw [hR, ← vv];have:=za (it.map Im.s);rw [List.length_map]at this;omega
 refine cM 0 1 (bm.ind (ι:=List Im×Nat×List aB×Nat) (fun i=>it.drop i.2.1=i.1∧i.2.2.1++kA (i.1.map Im.s)=R∧i.2.2.2=i.2.2.1.length) (fun i=>i.1.length)
  (fun i=> [(5, .slice (.tok 0) 1 (i.2.2.1.map encStr)),(12, .slice .shared 17 (it.map ez)),(13, .int .i64 (it.length:Int)),(14, .int .i64 (i.2.1:Int))]) (fun i=>⟨[],[some i.2.2.2]⟩) ?_ (it,0,[],0) ⟨rfl,by rw [hR,vv];rfl,rfl⟩)
 rintro⟨rest,k,out,n⟩ ⟨h1,h2,h3⟩ IH
 dsimp only at h1 h2 h3
 subst h3
 have n8:out.length≤900000:=by have:=congrArg List.length h2;rw [List.length_append]at this;omega
 cases rest with
 | cons a rest=>
  obtain⟨hP,g2,hF,g4⟩:=drop_cons h1
  have cb:k<4611686018427387904:=by omega
  have hY:(out.length+1)*17≤bI:=by unfold bI;omega
  simp only [List.map_cons,kA]at h2
  rcases Bool.eq_false_or_eq_true (a.s.kind==4)with c1 | c1
  ·simp only [c1,if_true]at h2
   repeat' (first
 | simp only [go_sem,hF,hP,hY,hZ,c1]
 | (with_reducible refine aH hQ ?_;simp only [az,aA,Option.some.injEq,exists_eq_left',go_sem,hF,hP,hY,hZ];repeat' (first | exact Ok.out | with_reducible refine aE ?_ ?_ | (simp;done))))
   refine eo 0 1 ?_ ?_ (IH (rest,k+1,out++ [a.s.proc],out.length+1) ⟨g2,by rw [← h2];simp,by simp⟩ (Nat.lt_succ_self _))
   ·(simp only [go_sem,hF,hP,hY,hZ,aM cb,List.map_append,List.map_cons,List.map_nil,encStr];try exact bU)
   ·(simp only [go_sem,hF,hP,hY,hZ,aM cb,List.map_append,List.map_cons,List.map_nil,encStr];try exact bU)
  ·simp only [c1,Bool.false_eq_true,if_false]at h2
   repeat' (first
 | simp only [go_sem,hF,hP,hY,hZ,c1]
 | (with_reducible refine aH hQ ?_;simp only [az,aA,Option.some.injEq,exists_eq_left',go_sem,hF,hP,hY,hZ];repeat' (first | exact Ok.out | with_reducible refine aE ?_ ?_ | (simp;done))))
   refine eo 0 1 ?_ ?_ (IH (rest,k+1,out,_) ⟨g2,h2,rfl⟩ (Nat.lt_succ_self _))
   ·(simp only [go_sem,hF,hP,hY,hZ,aM cb];try exact bU)
   ·(simp only [go_sem,hF,hP,hY,hZ,aM cb];try exact bU)
 | nil=>
  have hF:=drop_nil h1
  simp only [List.map_nil,kA,List.append_nil]at h2
  subst h2
  have Bb:(kO out).length=out.length:=List.length_mergeSort out
  repeat' (first
 | simp only [go_sem,hF,hP,hY,hZ]
 | (with_reducible refine aH hQ ?_;simp only [az,aA,Option.some.injEq,exists_eq_left',go_sem,hF,hP,hY,hZ];repeat' (first | exact Ok.out | with_reducible refine aE ?_ ?_ | (simp;done))))
  refine Sem.seq (Sem.sort (k:=5) (t:=0) (l:=out) hB (by decide) (by decide) (by decide) rfl rfl (by omega) ?_)
  show Sem _ _ _ _ _ _ _
  refine Sem.seq (Sem.compact (k:=5) (t:=0) (l:=kO out) hB (by decide) rfl (by rw [Bb];rfl) (by rw [Bb];omega) ?_)
  rw [x5]
  have aiP:f.calls=iS out:=by unfold Pc.calls;rw [hR]
  rw [aiP]at hQ
  refine gB (ac:= .ret) (Q:=Q) (tm:= [(32, .slice (.tok 0) 1 ((iS out).map encStr)),(4, .slice (.tok 0) 1 ((iS out).map encStr))]) (s:=⟨[],[some (iS out).length]⟩) ?_
  repeat' (first
 | simp only [go_sem,hF,hP,hY,hZ]
 | (with_reducible refine aH hQ ?_;simp only [az,aA,Option.some.injEq,exists_eq_left',go_sem,hF,hP,hY,hZ];repeat' (first | exact Ok.out | with_reducible refine aE ?_ ?_ | (simp;done))))
end Go.Abs

/-! Tc2 -/

namespace Go.Abs
set_option maxRecDepth 8000
open Go.Proofs
theorem Dd {name:aB} : ∀ {l:List Pc},name∈l.map (·.name)→∃ f,jG name l=some f
 | f::l,h=>by
  simp only [jG]
  cases e:(f.name==name)
  ·simp only [Bool.false_eq_true,if_false]
   refine Dd ?_
   rcases List.mem_cons.1 h with h | h
   ·rw [h]at e;simp at e
   ·exact h
  ·exact⟨f,rfl⟩
theorem De {p:Pg} {f:Pc} {procs:List aB} : ∀ {l:List Sm},xY p f procs l=none→∀ v∈l,v.known p f procs=true
 | v::l,h,w,m=>by
  simp only [xY]at h
  split at h
  ·rename_i e
   rcases List.mem_cons.1 m with rfl | m
   ·exact e
   ·exact De h w m
  ·cases h
theorem Df {p:Pg} {procs:List aB} : ∀ {l:List Pc},((sT p procs l).1==0)=true→∀ f∈l,fV (p.globals++f.own)=false∧∀ v∈Sm.dG f.body,v.known p f procs=true
 | g::l,h,f,m=>by
  simp only [sT]at h
  split at h
  ·cases h
  ·rename_i e
   split at h
   ·cases h
   ·rename_i e2
    rcases List.mem_cons.1 m with rfl | m
    ·exact⟨by simpa using e,De e2⟩
    ·exact Df h f m
theorem FI {p:Pg} (h:(p.scope.1==0)=true):fV p.globals=false∧fV p.pn=false∧p.vw=false∧∀ f∈p.procs,fV (p.globals++f.own)=false∧∀ v∈Sm.dG f.body,v.known p f p.pn=true:=by
 unfold Pg.scope at h
 split at h
 ·split at h
  ·cases h
  ·rename_i e
   simp only [Bool.or_eq_true,not_or,Bool.not_eq_true]at e
   exact⟨e.1,e.2.1,e.2.2,Df h⟩
 ·cases h
theorem uP {x:aB} : ∀ {l:List Sm},x∈kA l↔∃ v∈l,v.kind=4∧v.proc=x
 | []=>by simp [kA]
 | v::l=>by
  simp only [kA]
  cases e:(v.kind==4)
  ·have:v.kind≠4:=by simpa using e
   simp [this,uP (l:=l)]
  ·have:v.kind=4:=by simpa using e
   simp only [if_true,List.mem_cons,uP (l:=l),exists_eq_or_imp,this,true_and]
   constructor
   ·rintro(h | h)
    ·exact .inl h.symm
    ·exact .inr h
   ·rintro(h | h)
    ·exact .inl h.symm
    ·exact .inr h
theorem MP {f:Pc} {x:aB} : x∈f.calls↔∃ v∈Sm.dG f.body,v.kind=4∧v.proc=x:=by
 unfold Pc.calls;rw [(kP _).2,uP]
theorem zb {p:Pg} (h:(p.scope.1==0)=true) {f:Pc} (hf:f∈p.procs) {x:aB} (m:x∈f.calls) : ∃ g,p.find x=some g:=by
 obtain⟨v,hv,h4,rfl⟩:=MP.1 m
 have hk:=((FI h).2.2.2 f hf).2 v hv
 simp only [Sm.known,h4,Bool.and_eq_true,Bool.or_eq_true]at hk
 rcases hk.2 with h | ⟨_,h⟩
 ·simp at h
 ·exact Dd ((iN _ _).1 h)
def Be (p:Pg) (x:aB):List aB:=match p.find x with | some f=>f.calls | none=> []
def zM (out:List aB):List aB→List aB
 | []=>out
 | x::l=>zM (yq out x) l
def tV (p:Pg):Nat→Nat→List aB→List aB
 | 0,_,out=>out
 | n+1,i,out=>match out[i]? with
  | some x=>tV p n (i+1) (zM out (Be p x))
  | none=>out
def Pg.work (p:Pg) (name:aB):List aB:=tV p (p.procs.length+1) 0 [name]
def Good (p:Pg) (out:List aB):Prop:=out.Nodup∧∀ x∈out,∃ f,p.find x=some f
theorem Good.len {p:Pg} {out:List aB} (h:Good p out):out.length≤p.procs.length:=by
 have:=tU out p.pn h.1 fun x m=>by
  obtain⟨f,hf⟩:=h.2 x m
  obtain⟨h1,h2⟩:=qg hf
  rw [← h2];exact List.mem_map_of_mem h1
 simpa [Pg.pn]using this
theorem Good.spk {p:Pg} {out:List aB} (h:Good p out) {x:aB} (hx : ∃ f,p.find x=some f):Good p (yq out x):=by
 unfold yq
 split
 ·exact h
 ·rename_i e
  have:x∉out:=fun m=>e ((iN _ _).2 m)
  refine⟨List.nodup_append.2 ⟨h.1,by simp,fun a ha b hb e'=> ?_⟩,fun y hy=> ?_⟩
  ·have hbx:b=x:=by simpa using hb
   rw [e',hbx]at ha;exact this ha
  ·rcases List.mem_append.1 hy with hy | hy
   ·exact h.2 y hy
   ·have:y=x:=by simpa using hy
    subst this;exact hx
theorem Good.add {p:Pg} : ∀ {l out:List aB},Good p out→(∀ x∈l,∃ f,p.find x=some f)→Good p (zM out l)
 | [],out,h,_=>h
 | x::l,out,h,hx=>Good.add (l:=l) (out:=yq out x) (Good.spk h (hx x List.mem_cons_self)) fun y m=>hx y (List.mem_cons_of_mem _ m)
end Go.Abs

/-! Tc3 -/

namespace Go.Abs
set_option maxRecDepth 8000
open Go.Proofs
def tgB:Bool→Tag
 | true=> .tok 0
 | false=> .full
def tkB:Bool→Nat→List (Option Nat)
 | true,n=> [some n]
 | false,_=> []
end Go.Abs

/-! Bsl -/

namespace Go.Abs
def wg:AI→AI
 | .op d g (.cP z k n ps)=> .op d g (.sd z k n ps)
 | a=>a
section
variable {P:Program}
theorem G3 {nt:Nat} {ops:Array Oper} {i:Nat} {o:Oper} {ai:AI} (hi:ops[i]? = some o) (hc:cI P nt ops o=some ai)
 {M:Map} {s:St} {w:World} {tm:Tm} {act:Act} (r:Rel M s w) (kf:Laid M s w) (ht:kE M s tm act.tmps) {K':Tm→St→Prop} (h:gP P [wg ai] K' tm s)
 {K:Act→World→Prop} {Q:Exit→Act→World→Prop}
 (hK : ∀ d v s1 w1 M1,K' (tm.put ai.dst d) s1→Ext M s w M1 s1 w1→Rel M1 s1 w1→RD M1 s1 d v→K (act.put o.dst v) w1):wpOp P ops Q i K act w:=by
 by_cases hb : ∃ d g z k n ps,ai = .op d g (.cP z k n ps)
 ·obtain⟨d0,g0,z,k,n,ps,rfl⟩:=hb
  obtain⟨g,hg,_,hb⟩:=xA hc
  rw [qK hb]at hK
  simp only [wpOp,hi]
  have skip:K' (tm.put o.dst (.tuple [])) s→K (act.put o.dst Go.undef) w:=fun hk=>hK _ _ _ _ _ hk (Ext.refl M s w) r .undef
  have hd:=qK hb
  simp only [AI.dst]at hd
  subst hd
  have mg:zW P o=some (.cP z k n ps)∧g0=g:=by
   unfold qj at hb
   split at hb
   ·split at hb
    ·obtain⟨xs,_,h⟩:=map_some hb;cases h
    ·cases hb
   ·obtain⟨xs,_,h⟩:=map_some hb;cases h
   ·split at hb
    ·cases hb
    ·split at hb
     ·rename_i mg
      simp only [Option.some.injEq,AI.op.injEq,true_and]at hb
      obtain⟨h1,h2⟩:=hb
      split at h2
      ·cases h2
      ·cases h2;exact⟨mg,h1.symm⟩
     ·rename_i ao fl mg
      simp only [Option.some.injEq,AI.op.injEq,true_and]at hb
      obtain⟨h1,h2⟩:=hb
      subst h2
      exact⟨mg,h1.symm⟩
     ·cases hb
  obtain⟨mg,rfl⟩:=mg
  simp only [wg,gP]at h
  rcases iP hg ht h with ⟨hw,hA⟩ | ⟨hw,hB⟩
  ·simp only [hw,if_true]
   left
   split at hA
   ·rename_i d s' oK
    obtain⟨v,w',M',dz,r',hv,e'⟩:=vO mg r ht oK
    unfold Oper.wp
    rcases dz with dz | ⟨dz,rfl⟩
    ·rw [dz,Oper.upon_value]
     exact hK _ _ _ _ _ hA e' r' hv
    ·rw [dz,Oper.upon_skip]
     exact hK _ _ _ _ _ hA e' r' hv
   ·exact hA.elim
  ·simp only [hw]
   exact skip hB
 ·have hs:wg ai=ai:=by
   unfold wg
   split
   ·rename_i d g z k n ps;exact absurd ⟨d,g,z,k,n,ps,rfl⟩ hb
   ·rfl
  rw [hs]at h
  exact ur hi hc r kf ht h hK
theorem Uk {a:AI} {r:List AI} {K:Tm→St→Prop} {tm:Tm} {s:St} (h:gP P (a::r) K tm s):gP P [a] (gP P r K) tm s:=by
 cases a <;> exact h
theorem Dg {B:e9} {nt:Nat} {ops:Array Oper} {Q:Exit→Tm→St→Prop} : ∀ (l:List Nat) (ol:List Oper) (is:List AI),l.map (ops[·]?)=ol.map some→oV P nt ops ol=some is→
 ∀ (tm:Tm) (s:St) (act:Act) (w:World),gP P (is.map wg) (Q .normal) tm s→Holds B nt tm s act w→wpOps P ops (nW B nt Q) l act w
 | [],[],is,_,hc,tm,s,act,w,h,hh=>by cases hc;exact⟨tm,s,h,hh⟩
 | [],_::_,_,hl,_,_,_,_,_,_,_=>by simp at hl
 | _::_,[],_,hl,_,_,_,_,_,_,_=>by simp at hl
 | i::l,o::ol,is,hl,hc,tm,s,act,w,h,hh=>by
  simp only [List.map_cons,List.cons.injEq]at hl
  obtain⟨hi,hl⟩:=hl
  unfold oV at hc
  split at hc
  ·rename_i ai K3 h1 h2
   cases hc
   obtain⟨M,e,r,ht,hn,hd⟩:=hh
   have oB:=uY h1
   have hdd:=qL h1
   rw [List.map_cons]at h
   have key:=G3 (K:=fun act w=>wpOps P ops (nW B nt Q) l act w) (Q:=nW B nt Q) hi h1 r (B.laid.ext e) ht (Uk h) (fun d v s1 w1 M1 hk e1 r1 hv=>
    Dg (Q:=Q) l ol K3 hl h2 _ _ _ _ hk (hdd ▸ Holds.put e ht hn hd oB e1 r1 hv))
   simpa only [wpOps,wpOp,hi]using key
  ·cases hc
theorem Sem.swap {B:e9} {nt:Nat} {is:List AI} {Q:Exit→Tm→St→Prop} {tm:Tm} {s:St} (h:gi P B nt (.run (is.map wg)) Q tm s):Sem P B nt (.run is) Q tm s:=by
 intro c hc act w hh
 obtain⟨id,ops,rfl,hi⟩:=j7 hc
 refine wp_region ?_
 exact Dg _ _ is (xr ops) hi tm s act w (mw h) hh
end
end Go.Abs

/-! Tc4 -/

namespace Go.Abs
set_option maxRecDepth 8000
open Go.Proofs
theorem Ke {l:List aB} (h:l.Nodup):kO l=iS l:=by
 refine uN ?_ (kP l).1 fun x=> ?_
 ·have h1:=Dc l
  have h2:(kO l).Nodup:=(List.mergeSort_perm l _).nodup_iff.2 h
  refine(List.pairwise_and_iff.2 ⟨h1,h2⟩).imp fun {a b} Sx=> ?_
  rcases vz a b with e | e | e
  ·exact e
  ·exact absurd e Sx.2
  ·rw [Sx.1]at e;cases e
 ·rw [(kP l).2];exact(List.mergeSort_perm l _).mem_iff
theorem x7 {p:Pg} (lS:(p.scope.1==0)=true) : ∀ (n i:Nat) (out:List aB),Good p out→Good p (tV p n i out)
 | 0,i,out,h=>h
 | n+1,i,out,h=>by
  simp only [tV]
  split
  ·rename_i x hx
   obtain⟨g,hg⟩:=h.2 x (List.mem_of_getElem? hx)
   refine x7 lS n _ _ (h.add fun y m=> ?_)
   unfold Be at m
   rw [hg]at m
   exact zb lS (qg hg).1 m
  ·exact h
theorem zN {p:Pg} {name:aB} {f:Pc} (hf:p.find name=some f):Good p [name]:=
 ⟨by simp,fun x m=>by
  have:x=name:=by simpa using m
  subst this;exact⟨f,hf⟩⟩
theorem Ul {p:Pg} (h:p.jO) (lS:(p.scope.1==0)=true) {name:aB} {f:Pc} (hf:p.find name=some f) (s:St):aD Tryz.prog uz [.dC (gC p) 0, .str name] s (.slice .shared 1 ((iS (p.work name)).map encStr)) s:=by
 refine aD.pure ?_ (by simp [D.bH,D.ok,wa]) (by simp only [D.ok,Tag.ok,eH];rfl) s
 obtain⟨sj,rC,wP⟩:=h.procs
 obtain⟨R,hR⟩ : ∃ R,p.work name=R:=⟨_,rfl⟩
 have hgR:Good p R:=hR ▸ x7 lS _ _ _ (zN hf)
 rw [hR, ← Ke hgR.1]
 unfold Pg.work at hR
 have hg0:Good p [name]:=zN hf
 have hRl:=hgR.len
 unfold S0
 obtain⟨fn,wR,yZ⟩:=DL
 refine aD.intro ⟨fn,wR,yZ⟩ (Nat.le_of_ble_eq_true rfl) fun B hB=> ?_
 generalize hQ:gS (⟨[],[]⟩:St).aw.length (⟨[],[]⟩:St).aC.length _ _ (⟨[],[]⟩:St)=Q
 have⟨hF,hP,hY,hZ⟩:=bt
 refine Sem.jB ?_
 repeat' (first
 | simp only [go_sem,hF,hP,hY,hZ]
 | (with_reducible first | refine bB fun hc=> ?_ | refine bC fun hc=> ?_ | refine bD (fun hc=> ?_) fun hc=> ?_) <;> (try simp only [hc,bs, ↓reduceIte]at h) <;> try simp only [hc]
 | (with_reducible refine aH hQ ?_;exact pQ)
 | (cases h;done))
 refine Sem.seq (Sem.swap ?_)
 simp only [List.map_cons,List.map_nil,wg]
 repeat' (first
 | simp only [go_sem,hF,hP,hY,hZ]
 | (with_reducible first | refine bB fun hc=> ?_ | refine bC fun hc=> ?_ | refine bD (fun hc=> ?_) fun hc=> ?_) <;> (try simp only [hc,bs, ↓reduceIte]at h) <;> try simp only [hc]
 | (with_reducible refine aH hQ ?_;exact pQ)
 | (cases h;done))
 refine Sem.jB ?_
 repeat' (first
 | simp only [go_sem,hF,hP,hY,hZ]
 | (with_reducible first | refine bB fun hc=> ?_ | refine bC fun hc=> ?_ | refine bD (fun hc=> ?_) fun hc=> ?_) <;> (try simp only [hc,bs, ↓reduceIte]at h) <;> try simp only [hc]
 | (with_reducible refine aH hQ ?_;exact pQ)
 | (cases h;done))
 refine cM 0 1 (bm.ind (ι:=Nat×Nat×List aB×Nat) (fun i=>tV p i.1 i.2.1 i.2.2.1=R∧Good p i.2.2.1∧i.1+i.2.1=p.procs.length+1∧i.2.2.2=i.2.2.1.length) (fun i=>i.1)
  (fun i=> [(0, .dC (gC p) 0),(5, .slice (.tok 0) 1 (i.2.2.1.map encStr)),(6, .int .i64 (i.2.1:Int))]) (fun i=>⟨[],[some i.2.2.2]⟩) ?_ (p.procs.length+1,0,[name],1) ⟨hR,hg0,rfl,rfl⟩)
 rintro⟨n,i,out,no⟩ ⟨h1,h2,h3,h4⟩ IH
 dsimp only at h1 h2 h3 h4
 subst h4
 have n8:=h2.len
 cases hx:out[i]? with
 | none=>
  have hF:decide ((i:Int)<(out.length:Int))=false:=by have:=List.getElem?_eq_none_iff.1 hx;simp;omega
  have:R=out:=by
   cases n with
   | zero=>simpa [tV]using h1.symm
   | succ n=>simp only [tV,hx]at h1;exact h1.symm
  subst this
  repeat' (first
 | simp only [go_sem,hF,hP,hY,hZ]
 | (with_reducible first | refine bB fun hc=> ?_ | refine bC fun hc=> ?_ | refine bD (fun hc=> ?_) fun hc=> ?_) <;> (try simp only [hc,bs, ↓reduceIte]at h) <;> try simp only [hc]
 | (with_reducible refine aH hQ ?_;exact pQ)
 | (cases h;done))
  refine Sem.seq (Sem.sort (k:=5) (t:=0) (l:=R) hB (by decide) (by decide) (by decide) rfl rfl (by omega) ?_)
  refine gB (ac:=WD) (Q:=Q) (tm:= [(5, .slice (.tok 0) 1 ((kO R).map encStr))]) (s:=⟨[],[some R.length]⟩) ?_
  repeat' (first
 | simp only [go_sem,hF,hP,hY,hZ]
 | (with_reducible first | refine bB fun hc=> ?_ | refine bC fun hc=> ?_ | refine bD (fun hc=> ?_) fun hc=> ?_) <;> (try simp only [hc,bs, ↓reduceIte]at h) <;> try simp only [hc]
 | (with_reducible refine aH hQ ?_;exact pQ)
 | (cases h;done))
 | some x=>
  have oL:=(List.getElem?_eq_some_iff.1 hx).1
  have hF:decide ((i:Int)<(out.length:Int))=true:=by simp;omega
  have yM:i<4611686018427387904:=by omega
  cases n with
  | zero=>omega
  | succ n=>
  simp only [tV,hx]at h1
  obtain⟨g,FJ⟩:=h2.2 x (List.mem_of_getElem? hx)
  have Xy:=(qg FJ).1
  have SF:=fun s=>Uj h FJ s
  have hcn:Be p x=g.calls:=by unfold Be;rw [FJ]
  rw [hcn]at h1
  have hth : ∀ y∈g.calls,∃ f,p.find y=some f:=fun y m=>zb lS Xy m
  have aq6:g.calls.length≤p.procs.length:=Good.len ⟨rV (kP _).1,hth⟩
  obtain⟨W,hW⟩ : ∃ W,zM out g.calls=W:=⟨_,rfl⟩
  rw [hW]at h1
  repeat' (first
 | simp only [go_sem,hF,hP,hY,hZ,hx]
 | (with_reducible refine CU (SF _) ?_)
 | (with_reducible first | refine bB fun hc=> ?_ | refine bC fun hc=> ?_ | refine bD (fun hc=> ?_) fun hc=> ?_) <;> (try simp only [hc,bs, ↓reduceIte]at h) <;> try simp only [hc]
 | (with_reducible refine aH hQ ?_;(try cases h);simp only [az,aA,bx,bA,go_sem,hF,hP,hY,hZ,hx];try exact Aq)
 | (cases h;done))
  refine cM 0 1 (bm.ind (ι:=List aB×Nat×List aB×Nat) (fun j=>g.calls.drop j.2.1=j.1∧zM j.2.2.1 j.1=W∧Good p j.2.2.1∧j.2.2.2=j.2.2.1.length) (fun j=>j.1.length)
   (fun j=> [(0, .dC (gC p) 0),(5, .slice (.tok 0) 1 (j.2.2.1.map encStr)),(6, .int .i64 (i:Int)),(22, .slice .shared 1 (g.calls.map encStr)),(23, .int .i64 (g.calls.length:Int)),(24, .int .i64 (j.2.1:Int))]) (fun j=>⟨[],[some j.2.2.2]⟩) ?_ (g.calls,0,out,out.length) ⟨rfl,hW,h2,rfl⟩)
  clear hW
  rintro⟨rest,k,b6,n'⟩ ⟨j1,j2,j3,j4⟩ SB
  dsimp only at j1 j2 j3 j4
  subst j4
  have aq7:=j3.len
  cases rest with
  | nil=>
   have Xz:=drop_nil j1
   simp only [zM]at j2
   subst j2
   repeat' (first
 | simp only [go_sem,hF,hP,hY,hZ,Xz]
 | (with_reducible first | refine bB fun hc=> ?_ | refine bC fun hc=> ?_ | refine bD (fun hc=> ?_) fun hc=> ?_) <;> (try simp only [hc,bs, ↓reduceIte]at h) <;> try simp only [hc]
 | (with_reducible refine aH hQ ?_;(try cases h);simp only [az,aA,bx,bA,go_sem,hF,hP,hY,hZ,Xz];try exact Aq)
 | (cases h;done))
   refine eo 0 1 ?_ ?_ (IH (n,i+1,b6,b6.length) ⟨h1,j3,by dsimp only;omega,rfl⟩ (Nat.lt_succ_self _))
   ·(simp only [go_sem,hF,hP,hY,hZ,aM yM];try exact bU)
   ·(simp only [go_sem,hF,hP,hY,hZ,aM yM];try exact bU)
  | cons y rest=>
   obtain⟨nD,Hy,vx,jg4⟩:=drop_cons j1
   have qT:k<4611686018427387904:=by omega
   have hY:(b6.length+1)*17≤bI:=by unfold bI;omega
   have Dh:=fun g s=>ie (l:=b6) (by omega) y g s
   have hy:=hth y (List.mem_of_getElem? nD)
   have yS:=j3.spk hy
   simp only [zM]at j2
   rcases Bool.eq_false_or_eq_true (eC b6 y)with c1 | c1
   ·simp only [yq,c1,if_true]at j2
    repeat' (first
 | simp only [go_sem,hF,hP,hY,hZ,vx,nD,c1]
 | (with_reducible refine CU (Dh _ _) ?_)
 | (with_reducible first | refine bB fun hc=> ?_ | refine bC fun hc=> ?_ | refine bD (fun hc=> ?_) fun hc=> ?_) <;> (try simp only [hc,bs, ↓reduceIte]at h) <;> try simp only [hc]
 | (with_reducible refine aH hQ ?_;(try cases h);simp only [az,aA,bx,bA,go_sem,hF,hP,hY,hZ,vx,nD,c1];try exact Aq)
 | (cases h;done))
    refine eo 0 1 ?_ ?_ (SB (rest,k+1,b6,b6.length) ⟨Hy,j2,j3,rfl⟩ (Nat.lt_succ_self _))
    ·(simp only [go_sem,hF,hP,hY,hZ,aM qT];try exact bU)
    ·(simp only [go_sem,hF,hP,hY,hZ,aM qT];try exact bU)
   ·simp only [yq,c1,Bool.false_eq_true,if_false]at j2 yS
    repeat' (first
 | simp only [go_sem,hF,hP,hY,hZ,vx,nD,c1]
 | (with_reducible refine CU (Dh _ _) ?_)
 | (with_reducible first | refine bB fun hc=> ?_ | refine bC fun hc=> ?_ | refine bD (fun hc=> ?_) fun hc=> ?_) <;> (try simp only [hc,bs, ↓reduceIte]at h) <;> try simp only [hc]
 | (with_reducible refine aH hQ ?_;(try cases h);simp only [az,aA,bx,bA,go_sem,hF,hP,hY,hZ,vx,nD,c1];try exact Aq)
 | (cases h;done))
    refine eo 0 1 ?_ ?_ (SB (rest,k+1,b6++ [y],b6.length+1) ⟨Hy,j2,yS,by simp⟩ (Nat.lt_succ_self _))
    ·(simp only [go_sem,hF,hP,hY,hZ,aM qT,List.map_append,List.map_cons,List.map_nil,encStr];try exact bU)
    ·(simp only [go_sem,hF,hP,hY,hZ,aM qT,List.map_append,List.map_cons,List.map_nil,encStr];try exact bU)
end Go.Abs

/-! Tc5 -/

namespace Go.Abs
set_option maxRecDepth 8000
open Go.Proofs
theorem FK (name:aB) : ∀ l:List Pc,l.any (fun f=>f.name==name)=(jG name l).isSome
 | []=>rfl
 | f::l=>by
  simp only [List.any_cons,jG]
  cases e:(f.name==name)
  ·simp [FK name l]
  ·simp
theorem Qc (name:aB) (f:Pc):aD Tryz.prog mT ([.agg (cz f)]++ [.ptr 0 0]) ⟨[[.str name]],[]⟩ (.bool (f.name==name)) ⟨[[.str name]],[]⟩:=by
 show aD Tryz.prog mT [.agg (cz f), .ptr 0 0] _ _ _
 refine aD.go yG rfl fun B Q hB hQ=> ?_
 have⟨hF,hP,hY,hZ⟩:=bt
 repeat' (first
 | simp only [go_sem,hF,hP,hY,hZ]
 | (with_reducible refine aH hQ ?_;simp only [az,aA,Option.some.injEq,exists_eq_left',go_sem,hF,hP,hY,hZ];repeat' (first | exact Ok.out | with_reducible refine aE ?_ ?_ | (simp;done))))
def Pg.wh (p:Pg) (name:aB):Option Pc:=if p.scope.1==0 then p.find name else none
theorem Qd {p:Pg} (h:p.jO) (name:aB) (s:St):aD Tryz.prog rf [.agg (cj p), .str name] s (.bool (p.wh name).isSome) s:=by
 refine aD.pure ?_ (by simp [D.bH,D.ok,iX]) rfl s
 obtain⟨sj,rC,wP⟩:=h.procs
 have rp:=fun s=>qh h s
 have hi:=fun {s:St} {o:Nat} (ho:s.aw[o]? = some [.str name])=>xS (wX (l:=p.procs) (f:=mT) (row:= [.str name]) (b:=fun f:Pc=>f.name==name) (by omega) rfl (by with_unfolding_all rfl) (fun x _=>Qc name x)) rfl (DZ _) rfl ho
 have gp:=fun {s:St} {o:Nat} (ho:s.aw[o]? = some [.str name])=>(show aD Tryz.prog fU [.slice .shared 5 (p.procs.map cz), .fY 164 [.ptr o 0]] s (.bool (p.procs.any fun f:Pc=>f.name==name)) s from hi ho)
 simp only [FK]at gp
 unfold Pg.wh Pg.find
 unfold S0
 rcases Bool.eq_false_or_eq_true (p.scope.1==0)with b1 | b1
 ·simp only [b1,if_true]
  refine aD.go tD rfl fun B Q hB hQ=> ?_
  have⟨hF,hP,hY,hZ⟩:=bt
  repeat' (first
 | simp only [go_sem,hF,hP,hY,hZ,b1]
 | (with_reducible refine CU (rp _) ?_)
 | (with_reducible refine CU (gp (by with_unfolding_all rfl)) ?_)
 | (with_reducible refine aH hQ ?_;simp only [az,aA,Option.some.injEq,exists_eq_left',go_sem,hF,hP,hY,hZ];repeat' (first | exact Ok.out | with_reducible refine aE ?_ ?_ | (simp;done))))
 ·simp only [b1,Bool.false_eq_true,if_false,Option.isSome_none]
  refine aD.go tD rfl fun B Q hB hQ=> ?_
  have⟨hF,hP,hY,hZ⟩:=bt
  repeat' (first
 | simp only [go_sem,hF,hP,hY,hZ,b1]
 | (with_reducible refine CU (rp _) ?_)
 | (with_reducible refine CU (gp (by with_unfolding_all rfl)) ?_)
 | (with_reducible refine aH hQ ?_;simp only [az,aA,Option.some.injEq,exists_eq_left',go_sem,hF,hP,hY,hZ];repeat' (first | exact Ok.out | with_reducible refine aE ?_ ?_ | (simp;done))))
def Pg.apx (p:Pg) (name:aB):List aB:=match p.wh name with | some f=>f.calls | none=> []
def Pg.aiQ (p:Pg) (name:aB):List aB:=match p.wh name with | some _=>iS (p.work name) | none=> []
theorem Di {p:Pg} {name:aB} {f:Pc} (h:p.wh name=some f):(p.scope.1==0)=true∧p.find name=some f:=by
 unfold Pg.wh at h
 split at h
 ·exact⟨by assumption,h⟩
 ·cases h
end Go.Abs

/-! Tc6 -/

namespace Go.Abs
set_option maxRecDepth 8000
open Go.Proofs
def qy (p:Pg) (out:List aB):List aB→List aB
 | []=>out
 | v::l=>qy p (if eC p.globals v then out++ [v]else out) l
def qz (p:Pg) (out:List aB):List Sm→List aB
 | []=>out
 | v::l=>qz p (qy p out v.said) l
def qW (p:Pg) (n:aB):List Sm:=match p.find n with | some f=>Sm.dG f.body | none=> []
def rW (p:Pg) (out:List aB):List aB→List aB
 | []=>out
 | n::l=>rW p (qz p out (qW p n)) l
theorem wi (p:Pg) : ∀ (l out:List aB),out.length≤(qy p out l).length∧(qy p out l).length≤out.length+l.length
 | [],out=>⟨Nat.le_refl _,Nat.le_refl _⟩
 | v::l,out=>by
  simp only [qy]
  have h:=wi p l (if eC p.globals v then out++ [v]else out)
  have h2:out.length≤(if eC p.globals v then out++ [v]else out).length∧(if eC p.globals v then out++ [v]else out).length≤out.length+1:=by split <;> simp
  simp only [List.length_cons]
  omega
def mX:List Sm→Nat
 | []=>0
 | v::l=>v.said.length+mX l
theorem x8 : ∀ a b:List Sm,mX (a++b)=mX a+mX b
 | [],b=>by simp [mX]
 | v::a,b=>by simp only [List.cons_append,mX,x8 a b];omega
theorem Um (v:Sm):v.said.length≤1+v.x.size+2*Ar.aY v.args:=by
 have : ∀ (l:List Ar) (out:List aB),(Ar.said out l).length≤out.length+2*Ar.aY l:=by
  intro l
  induction l with
  | nil=>intro out;simp [Ar.said]
  | cons a l ih=>
   intro out
   simp only [Ar.said,Ar.aY]
   refine Nat.le_trans (ih _) ?_
   have:=jN a.x
   have:1≤a.x.size:=by obtain⟨_,_,_,_⟩:=a.x;simp [Ex.size]
   simp only [List.length_append]
   split <;> simp <;> omega
 have h1:=this v.args (v.rS++v.x.names)
 have h2:=jN v.x
 have h4:v.rS.length≤1:=by unfold Sm.rS;split <;> simp
 simp only [List.length_append]at h1
 unfold Sm.said
 omega
mutual
theorem MQ : ∀ s:Sm,mX s.pre≤2*s.size
 | ⟨id,kind,labels,name,proc,x,has,args,a7,aW⟩=>by
  simp only [Sm.pre,mX,x8,Sm.size]
  have h1:=Um ⟨id,kind,labels,name,proc,x,has,args,a7,aW⟩
  have h2:=rX a7
  have h3:=rX aW
  dsimp only at h1
  omega
theorem rX : ∀ l:List Sm,mX (Sm.dG l)≤2*Sm.aY l
 | []=>by simp [Sm.dG,mX,Sm.aY]
 | s::l=>by
  simp only [Sm.dG,x8,Sm.aY]
  have:=MQ s;have:=rX l;omega
end
theorem wj (p:Pg) : ∀ (l:List Sm) (out:List aB),out.length≤(qz p out l).length∧(qz p out l).length≤out.length+mX l
 | [],out=>⟨Nat.le_refl _,Nat.le_refl _⟩
 | v::l,out=>by
  simp only [qz,mX]
  have h:=wj p l (qy p out v.said)
  have h2:=wi p v.said out
  omega
theorem wk {p:Pg} (h:p.jO) : ∀ (l out:List aB),out.length≤(rW p out l).length∧(rW p out l).length≤out.length+l.length*1800000
 | [],out=>⟨Nat.le_refl _,by simp [rW]⟩
 | n::l,out=>by
  simp only [rW]
  have h1:=wk h l (qz p out (qW p n))
  have h2:=wj p (qW p n) out
  have h3:mX (qW p n)≤1800000:=by
   unfold qW
   split
   ·rename_i f hf
    have:=rX f.body
    have h4:=Pc.b9 (qg hf).1
    have h5:=h.procs.2.1
    simp only [Pc.size]at h4
    omega
   ·simp [mX]
  simp only [List.length_cons]
  omega
theorem MR {p:Pg} (h:p.may=true):p.procs.length≤16:=by
 unfold Pg.may at h
 split at h
 ·cases h
 ·rename_i c
  simp only [Bool.or_eq_true,decide_eq_true_eq,not_or,Int.not_lt,gt_iff_lt]at c
  have:=c.1.2
  omega
def Pg.qi (p:Pg) (name:aB):List aB:=rW p [] (iS (p.work name))
def Pg.oo (p:Pg) (name:aB):List aB:=match p.wh name with | some _=>iS (p.qi name) | none=> []
theorem FL {p:Pg} (lS:(p.scope.1==0)=true) {name:aB} {f:Pc} (hf:p.find name=some f):Good p (iS (p.work name)):=by
 have h:=x7 lS (p.procs.length+1) 0 [name] (zN hf)
 refine⟨rV (kP _).1,fun x m=>h.2 x ?_⟩
 exact((kP _).2 x).1 m
theorem MS {p:Pg} (h:p.jO) (name:aB) (s:St):aD Tryz.prog o9 [.agg (cj p), .str name] s (.slice .shared 1 ((p.oo name).map encStr)) s:=by
 refine aD.pure ?_ (by simp [D.bH,D.ok,iX]) (by simp only [D.ok,Tag.ok,eH];rfl) s
 have hk:=fun s=>Qd h name s
 have dN:=fun s=>AT (p:=p) (by have:=h.procs;omega) s
 unfold Pg.oo
 unfold S0
 cases Qe:p.wh name with
 | none=>
  simp only [Qe,Option.isSome_none]at hk
  simp only [List.map_nil]
  refine aD.go rA rfl fun B Q hB hQ=> ?_
  have⟨hF,hP,hY,hZ⟩:=bt
  repeat' (first
 | simp only [go_sem,hF,hP,hY,hZ]
 | (with_reducible refine CU (hk _) ?_)
 | (with_reducible refine aH hQ ?_;simp only [az,aA,Option.some.injEq,exists_eq_left',go_sem,hF,hP,hY,hZ];repeat' (first | exact Ok.out | with_reducible refine aE ?_ ?_ | (simp;done))))
 | some f=>
 obtain⟨lS,hf⟩:=Di Qe
 simp only [Qe,Option.isSome_some]at hk
 dsimp only
 obtain⟨sj,rC,wP⟩:=h.procs
 have hN:=FL lS hf
 obtain⟨N,XA⟩ : ∃ N,iS (p.work name)=N:=⟨_,rfl⟩
 rw [XA]at hN
 have hNl:=hN.len
 obtain⟨R,hR⟩ : ∃ R,p.qi name=R:=⟨_,rfl⟩
 rw [hR]
 unfold Pg.qi at hR
 rw [XA]at hR
 have hRl:R.length≤28800000:=by
  have:=(wk h N []).2
  rw [hR]at this
  have h4:=MR (C8 lS)
  have h3:N.length*1800000≤16*1800000:=Nat.mul_le_mul_right _ (by omega)
  simp only [List.length_nil]at this
  omega
 have SF:=fun s=>Ul h lS hf s
 simp only [XA]at SF
 obtain⟨fn,wR,yZ⟩:=rA
 refine aD.intro ⟨fn,wR,yZ⟩ (Nat.le_of_ble_eq_true rfl) fun B hB=> ?_
 generalize hQ:gS (⟨[],[]⟩:St).aw.length (⟨[],[]⟩:St).aC.length _ _ (⟨[],[]⟩:St)=Q
 have⟨hF,hP,hY,hZ⟩:=bt
 refine Sem.jB ?_
 repeat' (first
 | simp only [go_sem,hF,hP,hY,hZ]
 | (with_reducible refine aH hQ ?_;simp only [az,aA,Option.some.injEq,exists_eq_left',go_sem,hF,hP,hY,hZ];repeat' (first | exact Ok.out | with_reducible refine aE ?_ ?_ | (simp;done))))
 refine Sem.jB ?_
 repeat' (first
 | simp only [go_sem,hF,hP,hY,hZ]
 | (with_reducible refine CU (hk _) ?_)
 | (with_reducible refine aH hQ ?_;simp only [az,aA,Option.some.injEq,exists_eq_left',go_sem,hF,hP,hY,hZ];repeat' (first | exact Ok.out | with_reducible refine aE ?_ ?_ | (simp;done))))
 refine Sem.jB ?_
 repeat' (first
 | simp only [go_sem,hF,hP,hY,hZ]
 | (with_reducible refine CU (dN _) ?_)
 | (with_reducible refine aH hQ ?_;simp only [az,aA,Option.some.injEq,exists_eq_left',go_sem,hF,hP,hY,hZ];repeat' (first | exact Ok.out | with_reducible refine aE ?_ ?_ | (simp;done))))
 refine Sem.jB ?_
 repeat' (first
 | simp only [go_sem,hF,hP,hY,hZ]
 | (with_reducible refine aH hQ ?_;simp only [az,aA,Option.some.injEq,exists_eq_left',go_sem,hF,hP,hY,hZ];repeat' (first | exact Ok.out | with_reducible refine aE ?_ ?_ | (simp;done))))
 refine Sem.jB ?_
 repeat' (first
 | simp only [go_sem,hF,hP,hY,hZ]
 | (with_reducible refine CU (SF _) ?_)
 | (with_reducible refine aH hQ ?_;simp only [az,aA,Option.some.injEq,exists_eq_left',go_sem,hF,hP,hY,hZ];repeat' (first | exact Ok.out | with_reducible refine aE ?_ ?_ | (simp;done))))
 refine bm.oD 6 1 rfl ?_
 simp only [go_sem,hF,hP,hY,hZ]
 refine cM 1 1 (bm.ind (ι:=List aB×Nat×List aB×Nat) (fun i=>N.drop i.2.1=i.1∧rW p i.2.2.1 i.1=R∧i.2.2.1.length≤R.length∧i.2.2.2=i.2.2.1.length) (fun i=>i.1.length)
  (fun i=> [(2, .ptr 0 0),(5, .dC (gC p) 0),(6, .slice (.tok 0) 1 (i.2.2.1.map encStr)),(21, .slice .shared 1 (N.map encStr)),(22, .int .i64 (N.length:Int)),(23, .int .i64 (i.2.1:Int))]) (fun i=>⟨[cj p],[some i.2.2.2]⟩) ?_ (N,0,[],0) ⟨rfl,hR,Nat.zero_le _,rfl⟩)
 rintro⟨rest,k,out,no⟩ ⟨h1,h2,h3,h4⟩ IH
 dsimp only at h1 h2 h3 h4
 subst h4
 cases rest with
 | nil=>
  have hF:=drop_nil h1
  simp only [rW]at h2
  subst h2
  have Bb:(kO out).length=out.length:=List.length_mergeSort out
  repeat' (first
 | simp only [go_sem,hF,hP,hY,hZ]
 | (with_reducible refine aH hQ ?_;simp only [az,aA,Option.some.injEq,exists_eq_left',go_sem,hF,hP,hY,hZ];repeat' (first | exact Ok.out | with_reducible refine aE ?_ ?_ | (simp;done))))
  refine Sem.seq (Sem.sort (k:=6) (t:=0) (l:=out) hB (by decide) (by decide) (by decide) rfl rfl (by omega) ?_)
  refine Sem.seq (Sem.compact (k:=6) (t:=0) (l:=kO out) hB (by decide) rfl (by rw [Bb];rfl) (by rw [Bb];omega) ?_)
  rw [x5]
  refine gB (ac:= .ret) (Q:=Q) (tm:= [(59, .slice (.tok 0) 1 ((iS out).map encStr)),(4, .slice (.tok 0) 1 ((iS out).map encStr))]) (s:=⟨[],[some (iS out).length]⟩) ?_
  repeat' (first
 | simp only [go_sem,hF,hP,hY,hZ]
 | (with_reducible refine aH hQ ?_;simp only [az,aA,Option.some.injEq,exists_eq_left',go_sem,hF,hP,hY,hZ];repeat' (first | exact Ok.out | with_reducible refine aE ?_ ?_ | (simp;done))))
 | cons x rest=>
  obtain⟨hP,g2,hF,g4⟩:=drop_cons h1
  have cb:k<4611686018427387904:=by omega
  obtain⟨g,FJ⟩:=hN.2 x (List.mem_of_getElem? hP)
  have Xy:=(qg FJ).1
  have hbd:qW p x=Sm.dG g.body:=by unfold qW;rw [FJ]
  simp only [rW,hbd]at h2
  obtain⟨j,hj,rq⟩:=x6 (k:=0) FJ
  have rq:p.at x=((j:Nat):Int):=by unfold Pg.at;simpa using rq
  have yY:=fun s=>Mq (p:=p) (by omega) x s
  simp only [rq]at yY
  obtain⟨it,vv,A8⟩:=PJ hj (by omega)
  have Xo:it.length≤900000:=by
   have e:=congrArg List.length vv
   obtain⟨a,b,e',_,_,e3,e4⟩:=(oO p).2 j g hj
   have e5:=oP p
   have e6:=congrArg List.length e3
   rw [e4]at e5
   simp only [List.length_map,List.length_append]at e e5 e6
   omega
  rw [← vv]at h2
  repeat' (first
 | simp only [go_sem,hF,hP,hY,hZ,hP]
 | (with_reducible refine CU (yY _) ?_)
 | (with_reducible refine CU (A8 _) ?_)
 | (with_reducible refine aH hQ ?_;simp only [az,aA,Option.some.injEq,exists_eq_left',go_sem,hF,hP,hY,hZ];repeat' (first | exact Ok.out | with_reducible refine aE ?_ ?_ | (simp;done))))
  obtain⟨W,hW⟩ : ∃ W,qz p out (it.map Im.s)=W:=⟨_,rfl⟩
  rw [hW]at h2
  have hWR:W.length≤R.length:=by have:=(wk h rest W).1;rw [h2]at this;exact this
  have MK:out.length≤W.length:=by have:=(wj p (it.map Im.s) out).1;rw [hW]at this;exact this
  refine cM 1 1 (bm.ind (ι:=List Im×Nat×List aB×Nat) (fun i=>it.drop i.2.1=i.1∧qz p i.2.2.1 (i.1.map Im.s)=W∧i.2.2.1.length≤W.length∧i.2.2.2=i.2.2.1.length) (fun i=>i.1.length)
   (fun i=> [(2, .ptr 0 0),(5, .dC (gC p) 0),(6, .slice (.tok 0) 1 (i.2.2.1.map encStr)),(21, .slice .shared 1 (N.map encStr)),(22, .int .i64 (N.length:Int)),(23, .int .i64 (k:Int)),(31, .slice .shared 17 (it.map ez)),(32, .int .i64 (it.length:Int)),(33, .int .i64 (i.2.1:Int))]) (fun i=>⟨[cj p],[some i.2.2.2]⟩) ?_ (it,0,out,out.length) ⟨rfl,hW,MK,rfl⟩)
  rintro⟨tW,k2,zO,no⟩ ⟨j1,j2,j3,j4⟩ AZ
  dsimp only at j1 j2 j3 j4
  subst j4
  cases tW with
  | nil=>
   have aiR:=drop_nil j1
   simp only [List.map_nil,qz]at j2
   subst j2
   repeat' (first
 | simp only [go_sem,hF,hP,hY,hZ,aiR]
 | (with_reducible refine aH hQ ?_;simp only [az,aA,Option.some.injEq,exists_eq_left',go_sem,hF,hP,hY,hZ];repeat' (first | exact Ok.out | with_reducible refine aE ?_ ?_ | (simp;done))))
   refine eo 1 1 ?_ ?_ (IH (rest,k+1,zO,zO.length) ⟨g2,h2,hWR,rfl⟩ (Nat.lt_succ_self _))
   ·(simp only [go_sem,hF,hP,hY,hZ,aM cb];try exact bU)
   ·(simp only [go_sem,hF,hP,hY,hZ,aM cb];try exact bU)
  | cons y tW=>
   obtain⟨nD,Hy,vx,jg4⟩:=drop_cons j1
   have qT:k2<4611686018427387904:=by omega
   have hym:y.s∈Sm.dG g.body:=by rw [← vv];exact List.mem_map_of_mem (List.mem_of_getElem? nD)
   have QQ:=h.said Xy _ hym
   have Sy:=fun s=>xU QQ s
   have Bb:=FA _ QQ
   simp only [List.map_cons,qz]at j2
   repeat' (first
 | simp only [go_sem,hF,hP,hY,hZ,vx,nD]
 | (with_reducible refine CU (Sy _) ?_)
 | (with_reducible refine aH hQ ?_;simp only [az,aA,Option.some.injEq,exists_eq_left',go_sem,hF,hP,hY,hZ];repeat' (first | exact Ok.out | with_reducible refine aE ?_ ?_ | (simp;done))))
   obtain⟨V,hV⟩ : ∃ V,qy p zO y.s.said=V:=⟨_,rfl⟩
   rw [hV]at j2
   have hVW:V.length≤W.length:=by have:=(wj p (tW.map Im.s) V).1;rw [j2]at this;exact this
   have hoV:zO.length≤V.length:=by have:=(wi p y.s.said zO).1;rw [hV]at this;exact this
   refine cM 1 1 (bm.ind (ι:=List aB×Nat×List aB×Nat) (fun i=>y.s.said.drop i.2.1=i.1∧qy p i.2.2.1 i.1=V∧i.2.2.1.length≤V.length∧i.2.2.2=i.2.2.1.length) (fun i=>i.1.length)
    (fun i=> [(2, .ptr 0 0),(5, .dC (gC p) 0),(6, .slice (.tok 0) 1 (i.2.2.1.map encStr)),(21, .slice .shared 1 (N.map encStr)),(22, .int .i64 (N.length:Int)),(23, .int .i64 (k:Int)),(31, .slice .shared 17 (it.map ez)),(32, .int .i64 (it.length:Int)),(33, .int .i64 (k2:Int)),(39, .slice .shared 1 (y.s.said.map encStr)),(40, .int .i64 (y.s.said.length:Int)),(41, .int .i64 (i.2.1:Int))]) (fun i=>⟨[cj p],[some i.2.2.2]⟩) ?_ (y.s.said,0,zO,zO.length) ⟨rfl,hV,hoV,rfl⟩)
   rintro⟨Bf,k3,wm,no⟩ ⟨l1,l2,l3,l4⟩ IH3
   dsimp only at l1 l2 l3 l4
   subst l4
   cases Bf with
   | nil=>
    have aiS:=drop_nil l1
    simp only [qy]at l2
    subst l2
    repeat' (first
 | simp only [go_sem,hF,hP,hY,hZ,aiS]
 | (with_reducible refine aH hQ ?_;simp only [az,aA,Option.some.injEq,exists_eq_left',go_sem,hF,hP,hY,hZ];repeat' (first | exact Ok.out | with_reducible refine aE ?_ ?_ | (simp;done))))
    refine eo 1 1 ?_ ?_ (AZ (tW,k2+1,wm,wm.length) ⟨Hy,j2,hVW,rfl⟩ (Nat.lt_succ_self _))
    ·(simp only [go_sem,hF,hP,hY,hZ,aM qT];try exact bU)
    ·(simp only [go_sem,hF,hP,hY,hZ,aM qT];try exact bU)
   | cons z Bf=>
    obtain⟨XB,lg2,llt,lg4⟩:=drop_cons l1
    have SG:k3<4611686018427387904:=by omega
    have Dh:=fun g s=>ie (l:=p.globals) (by omega) z g s
    simp only [qy]at l2
    rcases Bool.eq_false_or_eq_true (eC p.globals z)with c1 | c1
    ·simp only [c1,if_true]at l2
     have hY:(wm.length+1)*17≤bI:=by unfold bI;omega
     have hoo:(wm++ [z]).length≤V.length:=by have:=(wi p Bf (wm++ [z])).1;rw [l2]at this;exact this
     repeat' (first
 | simp only [go_sem,hF,hP,hY,hZ,llt,XB,c1]
 | (with_reducible refine CU (Dh _ _) ?_)
 | (with_reducible refine aH hQ ?_;simp only [az,aA,Option.some.injEq,exists_eq_left',go_sem,hF,hP,hY,hZ];repeat' (first | exact Ok.out | with_reducible refine aE ?_ ?_ | (simp;done))))
     refine eo 1 1 ?_ ?_ (IH3 (Bf,k3+1,wm++ [z],wm.length+1) ⟨lg2,l2,hoo,by simp⟩ (Nat.lt_succ_self _))
     ·(simp only [go_sem,hF,hP,hY,hZ,aM SG,List.map_append,List.map_cons,List.map_nil,encStr];try exact bU)
     ·(simp only [go_sem,hF,hP,hY,hZ,aM SG,List.map_append,List.map_cons,List.map_nil,encStr];try exact bU)
    ·simp only [c1,Bool.false_eq_true,if_false]at l2
     repeat' (first
 | simp only [go_sem,hF,hP,hY,hZ,llt,XB,c1]
 | (with_reducible refine CU (Dh _ _) ?_)
 | (with_reducible refine aH hQ ?_;simp only [az,aA,Option.some.injEq,exists_eq_left',go_sem,hF,hP,hY,hZ];repeat' (first | exact Ok.out | with_reducible refine aE ?_ ?_ | (simp;done))))
     refine eo 1 1 ?_ ?_ (IH3 (Bf,k3+1,wm,wm.length) ⟨lg2,l2,l3,rfl⟩ (Nat.lt_succ_self _))
     ·(simp only [go_sem,hF,hP,hY,hZ,aM SG];try exact bU)
     ·(simp only [go_sem,hF,hP,hY,hZ,aM SG];try exact bU)
end Go.Abs

/-! Tc7 -/

namespace Go.Abs
open Go.Proofs
end Go.Abs

/-! ScPr -/

namespace Go.Abs
open Go.Proofs
end Go.Abs

/-! FlP -/

namespace Go.Abs
mutual
def Sm.MU (deep bZ:Int) (aW:Bool):Sm→List It
 | ⟨id,kind,labels,name,proc,x,has,args,a7,e⟩=>⟨⟨id,kind,labels,name,proc,x,has,args,a7,e⟩,deep,bZ,aW⟩::(Sm.Qf (deep+1) id false a7++Sm.Qf (deep+1) id true e)
def Sm.Qf (deep bZ:Int) (aW:Bool):List Sm→List It
 | []=> []
 | s::l=>s.MU deep bZ aW++Sm.Qf deep bZ aW l
end
def Bg (l:List Sm) (none:Int):Int:=match l with | []=>none | t::_=>t.id
mutual
def Sm.vB (proc up next loop:Int):Sm→List Im
 | ⟨id,kind,labels,name,pc,x,has,args,a7,aW⟩=>⟨⟨id,kind,labels,name,pc,x,has,args,a7,aW⟩,proc,up,next,loop⟩::
  (Sm.kc proc id (if kind==6 then id else next) (if kind==6 then id else loop) a7++Sm.kc proc id (if kind==6 then id else next) (if kind==6 then id else loop) aW)
def Sm.kc (proc up next loop:Int):List Sm→List Im
 | []=> []
 | s::l=>s.vB proc up (Bg l next) loop++Sm.kc proc up next loop l
end
def nZ (n:Nat) (l:List Sm):Prop:=∀ (i:Nat) (v:Sm),l[i]? = some v→v.id=((n+i+1:Nat):Int)
theorem nZ.head {n:Nat} {v:Sm} {l:List Sm} (h:nZ n (v::l)):v.id=((n+1:Nat):Int):=h 0 v rfl
theorem nZ.tail {n:Nat} {v:Sm} {l:List Sm} (h:nZ n (v::l)):nZ (n+1) l:=fun i w hw=>by
 rw [h (i+1) w (by simpa using hw)];congr 1;omega
theorem nZ.left {n:Nat} {a b:List Sm} (h:nZ n (a++b)):nZ n a:=fun i w hw=>h i w (by rw [List.getElem?_append_left (List.getElem?_eq_some_iff.1 hw).1];exact hw)
theorem nZ.right {n:Nat} {a b:List Sm} (h:nZ n (a++b)):nZ (n+a.length) b:=fun i w hw=>by
 rw [h (a.length+i) w (by rw [List.getElem?_append_right (by omega)];simpa using hw)];congr 1;omega
theorem Qg (s:Sm):s.pre=s::(Sm.dG s.a7++Sm.dG s.aW):=Sm.Fq s
mutual
theorem HD : ∀ s:Sm,s.gJ=s.pre.length
 | ⟨id,kind,labels,name,proc,x,has,args,a7,aW⟩=>by
  simp only [Sm.gJ,Sm.pre,List.length_cons,List.length_append,wo a7,wo aW];omega
theorem wo : ∀ l:List Sm,Sm.dQ l=(Sm.dG l).length
 | []=>rfl
 | s::l=>by simp only [Sm.dQ,Sm.dG,List.length_append,HD s,wo l]
end
mutual
theorem SH (proc up next loop:Int) : ∀ s:Sm,(s.vB proc up next loop).map Im.s=s.pre
 | ⟨id,kind,labels,name,pc,x,has,args,a7,aW⟩=>by
  simp only [Sm.vB,Sm.pre,List.map_cons,List.map_append,vC _ _ _ _ a7,vC _ _ _ _ aW]
theorem vC (proc up next loop:Int) : ∀ l:List Sm,(Sm.kc proc up next loop l).map Im.s=Sm.dG l
 | []=>rfl
 | s::l=>by simp only [Sm.kc,Sm.dG,List.map_append,SH _ _ _ _ s,vC _ _ _ _ l]
end
theorem Un (proc up next loop:Int) (s:Sm):(s.vB proc up next loop).length=s.pre.length:=by rw [← SH proc up next loop s,List.length_map]
theorem FM (proc up next loop:Int) (l:List Sm):(Sm.kc proc up next loop l).length=(Sm.dG l).length:=by rw [← vC proc up next loop l,List.length_map]
mutual
theorem Uo (proc up next loop:Int) (out:List Im) : ∀ s:Sm,nZ out.length s.pre→Im.one proc up next loop out s=out++s.vB proc up next loop
 | ⟨id,kind,labels,name,pc,x,has,args,a7,aW⟩,h=>by
  simp only [Sm.pre]at h
  have h0:id=((out.length+1:Nat):Int):=h.head
  have h1:=h.tail.left
  have h2:=h.tail.right
  have e0:((out.length:Int)+1)=id:=by rw [h0];rfl
  simp only [Im.one,Sm.vB,e0]
  rw [wq proc id _ _ (out++ [_]) a7 (by rw [List.length_append];exact h1)]
  rw [wq proc id _ _ _ aW (by
   rw [List.length_append,List.length_append,FM];exact h2)]
  simp
theorem wq (proc up next loop:Int) (out:List Im) : ∀ l:List Sm,nZ out.length (Sm.dG l)→Im.rows proc up next loop out l=out++Sm.kc proc up next loop l
 | [],h=>by simp [Im.rows,Sm.kc]
 | s::l,h=>by
  simp only [Sm.dG]at h
  have e:(if l.length=0 then next else(out.length:Int)+1+(s.gJ:Int))=Bg l next:=by
   cases l with
   | nil=>rfl
   | cons t l=>
    have h2:=h.right
    simp only [Sm.dG]at h2
    rw [Qg t]at h2
    simp only [List.length_cons,Bg]
    rw [if_neg (by omega),h2.head,HD]
    omega
  simp only [Im.rows,Sm.kc,e]
  rw [Uo proc up _ loop out s h.left,wq proc up next loop _ l (by rw [List.length_append,Un];exact h.right)]
  simp
end
def Ck (n:Nat):List Pc→List Im
 | []=> []
 | f::l=>Sm.kc n 0 (-1) 0 f.body++Ck (n+1) l
theorem Uq {p:Pg} (h:p.may=true):nZ 0 p.pre:=fun i v hv=>by rw [Xl h hv];congr 1;omega
def MV (l:List It):Nat→Int→Int
 | 0,_=>0
 | n+1,bZ=>if bZ==0 then 0 else match l[n]? with
  | none=>0
  | some x=>if x.s.id != bZ then MV l n bZ else if x.s.kind==6 then bZ else MV l n x.bZ
def Up (L:List It) (k:Nat) (MU:List It) (vB:List Im):Prop:=∀ (i:Nat) (a:It) (b:Im),MU[i]? = some a→vB[i]? = some b→a.s=b.s∧a.bZ=b.up∧MV L (k+i) a.bZ=b.loop
end Go.Abs

/-! JmpP -/

namespace Go.Abs
def iT (seen:List aB):List aB→List aB×Bool
 | []=>(seen,true)
 | n::l=>if eC seen n then(seen,false)else iT (seen++ [n]) l
theorem Dj : ∀ (l seen:List aB),seen.length≤(iT seen l).1.length∧(iT seen l).1.length≤seen.length+l.length
 | [],seen=>by simp [iT]
 | n::l,seen=>by
  simp only [iT]
  split
  ·simp
  ·have:=Dj l (seen++ [n]);simp at this ⊢;omega
def Bh (Kf:List aB) (v:Sm) (loop:Int):Bool:=if v.kind==7 || v.kind==8 then loop != 0 else if v.kind==10 then eC Kf v.name else true
def yw (Kf fin seen:List aB):List (Sm×Int)→Option Int
 | []=>if(iT seen fin).2 then none else some 0
 | (v,lp)::l=>if(iT seen v.labels).2 then(if Bh Kf v lp then yw Kf fin (iT seen v.labels).1 l else some v.id)else some v.id
def il:List Sm→List aB
 | []=> []
 | v::l=>v.labels++il l
def Pc.labels (f:Pc):List aB:=il (Sm.dG f.body)++f.fin
def Im.pair (m:Im):Sm×Int:=(m.s,m.loop)
def Pc.SI (f:Pc):List (Sm×Int):=(Sm.kc 0 0 (-1) 0 f.body).map Im.pair
def Bi:List Pc→Option Int
 | []=>none
 | f::l=>match yw f.labels f.fin [] f.SI with
  | some id=>some id
  | none=>Bi l
def vD (c:Int):Option Int→Int×Int
 | some id=>(c,id)
 | none=>(0,0)
def Pg.jump (p:Pg):Int×Int:=if p.scope.1==0 then vD 7 (Bi p.procs)else(1,0)
mutual
theorem Qh (proc up next rY MW next' loop:Int) : ∀ s:Sm,(s.vB proc up next loop).map Im.pair=(s.vB rY MW next' loop).map Im.pair
 | ⟨id,kind,labels,name,pc,x,has,args,a7,aW⟩=>by
  simp only [Sm.vB,List.map_cons,List.map_append,Im.pair]
  rw [tX proc id _ rY id (if kind==6 then id else next') _ a7,tX proc id _ rY id (if kind==6 then id else next') _ aW]
theorem tX (proc up next rY MW next' loop:Int) : ∀ l:List Sm,(Sm.kc proc up next loop l).map Im.pair=(Sm.kc rY MW next' loop l).map Im.pair
 | []=>rfl
 | s::l=>by
  simp only [Sm.kc,List.map_append]
  rw [Qh proc up _ rY MW (Bg l next') loop s,tX proc up next rY MW next' loop l]
end
theorem Qi (n:Int) (f:Pc):(Sm.kc n 0 (-1) 0 f.body).map Im.pair=f.SI:=tX _ _ _ _ _ _ _ _
def HE (l:List It):Nat→Int→Int
 | 0,_=>0
 | n+1,id=>match l[n]? with
  | none=>0
  | some x=>if x.s.id != id then HE l n id else if MV l n x.bZ != 0 then MV l n x.bZ else HE l n id
end Go.Abs

/-! Jm1 -/

namespace Go.Abs
set_option maxRecDepth 8000
open Go.Proofs
theorem HF : ∀ (l:List Pc) (n:Nat) (h:Sh),h.lo.length=n→h.hi.length=n→nZ h.L.length ((l.map fun f=>Sm.dG f.body).flatten)→
 ∃ lo hi,Sh.go n h l = ⟨h.L++Ck n l,h.lo++lo,h.hi++hi⟩∧lo.length=l.length∧hi.length=l.length∧
  ∀ (i:Nat) (f:Pc),l[i]? = some f→∃ a e:List Im,lo[i]? = some (((h.L++a).length:Int)+1)∧hi[i]? = some (((h.L++a++Sm.kc ((n+i:Nat):Int) 0 (-1) 0 f.body).length:Int)+1)∧Ck n l=a++Sm.kc ((n+i:Nat):Int) 0 (-1) 0 f.body++e
 | [],n,h,hl,hh,_=>⟨[],[],by simp [Sh.go,Ck],rfl,rfl,fun i f h=>by simp at h⟩
 | f::l,n,h,hl,hh,hi=>by
  simp only [List.map_cons,List.flatten_cons]at hi
  simp only [Sh.go,Ck]
  have e1:=wq (n:Int) 0 (-1) 0 h.L f.body hi.left
  obtain⟨lo,gp,h2,h3,h4,h5⟩:=HF l (n+1) ⟨Im.rows (n:Int) 0 (-1) 0 h.L f.body,h.lo++ [(h.L.length:Int)+1],h.hi++ [((Im.rows (n:Int) 0 (-1) 0 h.L f.body).length:Int)+1]⟩ (by simp [hl]) (by simp [hh]) (by
   show nZ (Im.rows (n:Int) 0 (-1) 0 h.L f.body).length _
   rw [e1,List.length_append,FM];exact hi.right)
  refine⟨((h.L.length:Int)+1)::lo,(((Im.rows (n:Int) 0 (-1) 0 h.L f.body).length:Int)+1)::gp, ?_,by simp [h3],by simp [h4],fun i g gp=> ?_⟩
  ·rw [h2,e1];simp
  ·cases i with
   | zero=>
    simp only [List.getElem?_cons_zero,Option.some.injEq]at gp
    subst gp
    exact⟨[],Ck (n+1) l,by simp,by rw [e1];simp,by simp⟩
   | succ i=>
    simp only [List.getElem?_cons_succ]at gp
    obtain⟨a,e,g1,g2,g3⟩:=h5 i g gp
    have en:n+1+i=n+(i+1):=by omega
    rw [en]at g2 g3
    refine⟨Sm.kc n 0 (-1) 0 f.body++a,e, ?_, ?_,by rw [g3];simp⟩
    ·rw [List.getElem?_cons_succ,g1,e1];simp
    ·rw [List.getElem?_cons_succ,g2,e1];simp
theorem XC {p:Pg} (hb:p.may=true) {i:Nat} {f:Pc} (hf:p.procs[i]? = some f) (hs:Pc.aY p.procs<1000000000) (s:St) :
 aD Tryz.prog fT [.dC (gC p) 0, .int .i64 (i:Int)] s (.slice .shared 17 ((Sm.kc (i:Int) 0 (-1) 0 f.body).map ez)) s:=by
 obtain⟨lo,hi,h1,h2,h3,h4⟩:=HF p.procs 0 ⟨[],[],[]⟩ rfl rfl (Uq hb)
 obtain⟨a,e,g1,g2,g3⟩:=h4 i f hf
 simp only [Nat.zero_add,List.nil_append]at g1 g2 g3 h1
 refine W8 hs (a:=a) (e:=e) ?_ ?_ ?_ s
 ·show(Sh.go 0 ⟨[],[],[]⟩ p.procs).lo[i]? = _
  rw [h1];exact g1
 ·show(Sh.go 0 ⟨[],[],[]⟩ p.procs).hi[i]? = _
  rw [h1];exact g2
 ·show(Sh.go 0 ⟨[],[],[]⟩ p.procs).L=_
  rw [h1];exact g3
theorem aD.aiT {P:Program} {f:FuncId} {pre post:List D} {rows kd:List (List D)} {z z' k k':Nat} {b:Bool} (h:aD P f (pre++ .slice (.tok 0) z rows::post) ⟨[],[some k]⟩ (.tuple [.slice (.tok 0) z' kd, .bool b]) ⟨[],[some k']⟩)
 (hp:D.bH 0 0 pre=true) (ha:D.bH 0 0 post=true) (hw:D.iE 0 0 rows=true) (Lv:D.iE 0 0 kd=true)
 {s:St} {t:Nat} (ht:s.aC[t]? = some (some k)):aD P f (pre++ .slice (.tok t) z rows::post) s (.tuple [.slice (.tok t) z' kd, .bool b]) ⟨s.aw,s.aC.set t (some k')⟩:=by
 refine dT.frame [] [t] h (by simp) (by simp) (by simp) (by simpa using (List.getElem?_eq_some_iff.1 ht).1) rfl (fun i o' ds e1 e2=>by simp at e1) rfl (fun i t' e1=> ?_)
  ?_ ?_ ?_
 ·cases i with
  | zero=>simp at e1;subst e1;simp [ht]
  | succ i=>simp at e1
 ·have h1:=eY [] [t] _ hp
  have h2:=eY [] [t] _ ha
  rw [fp]at h1 h2
  simp [fp,D.dE,Tag.dE,h1,h2,ix _ _ _ hw]
 ·have h1:=gv (n':=0) (m':=1) (Nat.le_refl 0) (Nat.zero_le 1) _ hp
  have h2:=gv (n':=0) (m':=1) (Nat.le_refl 0) (Nat.zero_le 1) _ ha
  rw [xv]at h1 h2 ⊢
  simp only [List.length_nil,List.length_cons,List.all_append,h1,Bool.true_and,List.all_cons,h2,Bool.and_true,D.ok,Tag.ok,lY (Nat.zero_le 0) (Nat.zero_le 1) _ hw]
  rfl
 ·rintro _ _ ⟨rfl,rfl⟩
  refine⟨by simp [D.back,D.dE,D.fL,Tag.dE,jg,ix _ _ _ Lv], ?_⟩
  simp [St.back,jk]
theorem XD {seen l:List aB} (hl:seen.length+l.length<1000000000):aD Tryz.prog oc [.slice (.tok 0) 1 (seen.map encStr), .slice .shared 1 (l.map encStr)] ⟨[],[some seen.length]⟩
 (.tuple [.slice (.tok 0) 1 ((iT seen l).1.map encStr), .bool (iT seen l).2]) ⟨[],[some (iT seen l).1.length]⟩:=by
 generalize hR:iT seen l=R
 refine aD.go DD rfl fun B Q hB hQ=> ?_
 have⟨hF,hP,hY,hZ⟩:=bt
 repeat' (first
 | simp only [go_sem,hF,hP,hY,hZ]
 | (with_reducible refine aH hQ ?_;simp only [az,aA,Option.some.injEq,exists_eq_left',go_sem,hF,hP,hY,hZ];repeat' (first | exact Ok.out | with_reducible refine aE ?_ ?_ | (simp;done))))
 refine cM 0 1 (bm.ind (ι:=List aB×Nat×List aB×Nat) (fun i=>l.drop i.2.1=i.1∧iT i.2.2.1 i.1=R∧i.2.2.2=i.2.2.1.length∧i.2.2.1.length+i.1.length<1000000000) (fun i=>i.1.length)
  (fun i=> [(0, .slice (.tok 0) 1 (i.2.2.1.map encStr)),(8, .slice .shared 1 (l.map encStr)),(9, .int .i64 (l.length:Int)),(10, .int .i64 (i.2.1:Int))]) (fun i=>⟨[],[some i.2.2.2]⟩) ?_ (l,0,seen,seen.length) ⟨rfl,hR,rfl,hl⟩)
 clear hR
 rintro⟨rest,k,out,n⟩ ⟨h1,h2,h3,h4⟩ IH
 dsimp only at h1 h2 h3 h4
 subst h3
 cases rest with
 | nil=>
  have hF:=drop_nil h1
  simp only [iT]at h2
  subst h2
  repeat' (first
 | simp only [go_sem,hF,hP,hY,hZ]
 | (with_reducible refine aH hQ ?_;simp only [az,aA,Option.some.injEq,exists_eq_left',go_sem,hF,hP,hY,hZ];repeat' (first | exact Ok.out | with_reducible refine aE ?_ ?_ | (simp;done))))
 | cons x rest=>
  obtain⟨hP,g2,hF,g4⟩:=drop_cons h1
  have cb:k<4611686018427387904:=by omega
  simp only [List.length_cons]at h4
  have hY:(out.length+1)*17≤bI:=by unfold bI;omega
  have Dh:=fun g s=>ie (l:=out) (by omega) x g s
  simp only [iT]at h2
  rcases Bool.eq_false_or_eq_true (eC out x)with c1 | c1
  ·simp only [c1,if_true]at h2
   subst h2
   repeat' (first
 | simp only [go_sem,hF,hP,hY,hZ,c1]
 | (with_reducible refine CU (Dh _ _) ?_)
 | (with_reducible refine aH hQ ?_;simp only [az,aA,Option.some.injEq,exists_eq_left',go_sem,hF,hP,hY,hZ];repeat' (first | exact Ok.out | with_reducible refine aE ?_ ?_ | (simp;done))))
  ·simp only [c1,Bool.false_eq_true,if_false]at h2
   repeat' (first
 | simp only [go_sem,hF,hP,hY,hZ,c1]
 | (with_reducible refine CU (Dh _ _) ?_)
 | (with_reducible refine aH hQ ?_;simp only [az,aA,Option.some.injEq,exists_eq_left',go_sem,hF,hP,hY,hZ];repeat' (first | exact Ok.out | with_reducible refine aE ?_ ?_ | (simp;done))))
   refine eo 0 1 ?_ ?_ (IH (rest,k+1,out++ [x],out.length+1) ⟨g2,h2,by simp,by simp;omega⟩ (Nat.lt_succ_self _))
   ·(simp only [go_sem,hF,hP,hY,hZ,aM cb,List.map_append,List.map_cons,List.map_nil,encStr];try exact bU)
   ·(simp only [go_sem,hF,hP,hY,hZ,aM cb,List.map_append,List.map_cons,List.map_nil,encStr];try exact bU)
theorem MX {seen l:List aB} (hl:seen.length+l.length<1000000000) {s:St} {t:Nat} (ht:s.aC[t]? = some (some seen.length)):aD Tryz.prog oc [.slice (.tok t) 1 (seen.map encStr), .slice .shared 1 (l.map encStr)] s
 (.tuple [.slice (.tok t) 1 ((iT seen l).1.map encStr), .bool (iT seen l).2]) ⟨s.aw,s.aC.set t (some (iT seen l).1.length)⟩:=
 (XD hl).aiT (pre:= []) (post:= [_]) rfl (by simp [D.bH,D.ok,Tag.ok,eH]) (eH _) (eH _) ht
end Go.Abs

/-! Jm2 -/

namespace Go.Abs
set_option maxRecDepth 8000
open Go.Proofs
theorem Qj (x:Im):(ez x)[2]? = some (.slice .shared 1 (x.s.labels.map encStr)):=nd rfl
theorem MY (x:Im):(ez x)[3]? = some (.str x.s.name):=nd rfl
attribute [go_sem] Qj MY
def pD (fin:List aB) (label:aB):List Sm→Int×Bool
 | []=>if eC fin label then(-1,true)else(0,false)
 | v::l=>if eC v.labels label then(v.id,true)else pD fin label l
theorem Dk (fin:List aB) (label:aB) : ∀ l:List Sm,(pD fin label l).2=eC (il l++fin) label
 | []=>by simp only [pD,il,List.nil_append];split <;> simp_all
 | v::l=>by
  simp only [pD,il,List.append_assoc]
  have h:=Dk fin label l
  rw [Bool.eq_iff_iff,iN]at h
  split
  ·rename_i c
   exact((iN _ _).2 (List.mem_append.2 (.inl ((iN _ _).1 c)))).symm
  ·rename_i c
   have:label∉v.labels:=fun m=>c ((iN _ _).2 m)
   rw [Bool.eq_iff_iff,h,iN]
   exact⟨fun m=>List.mem_append.2 (.inr m),fun m=>(List.mem_append.1 m).resolve_left this⟩
theorem FN {p:Pg} {v:Sm} (ho:p.jO) {f:Pc} (hf:f∈p.procs) (hv:v∈Sm.dG f.body):v.labels.length≤900000:=by
 have key : ∀ n:Nat,(∀ s:Sm,s.pre.length≤n→∀ v∈s.pre,v.labels.length≤s.size)∧(∀ l:List Sm,(Sm.dG l).length≤n→∀ v∈Sm.dG l,v.labels.length≤Sm.aY l):=by
  intro n
  induction n with
  | zero=>
   refine⟨fun s h=>by rw [Sm.Fq]at h;simp at h,fun l h v m=> ?_⟩
   have:=List.eq_nil_of_length_eq_zero (Nat.le_zero.1 h)
   rw [this]at m;cases m
  | succ n ih=>
   have h1 : ∀ s:Sm,s.pre.length≤n+1→∀ v∈s.pre,v.labels.length≤s.size:=by
    intro s h v m
    rw [Sm.Fq]at h m
    simp only [List.length_cons,List.length_append]at h
    obtain⟨id,kind,labels,name,proc,x,has,args,a7,aW⟩:=s
    simp only [Sm.size]
    rcases List.mem_cons.1 m with rfl | m
    ·dsimp only;omega
    ·rcases List.mem_append.1 m with m | m
     ·have:=ih.2 a7 (by dsimp only at h;omega) v m;omega
     ·have:=ih.2 aW (by dsimp only at h;omega) v m;omega
   refine⟨h1,fun l=> ?_⟩
   induction l with
   | nil=>intro _ v m;cases m
   | cons s l L7=>
    intro h v m
    simp only [Sm.dG,List.length_append]at h
    simp only [Sm.dG]at m
    simp only [Sm.aY]
    rcases List.mem_append.1 m with m | m
    ·have:=h1 s (by omega) v m;omega
    ·have:=L7 (by omega) v m;omega
 have h1:=(key (Sm.dG f.body).length).2 f.body (Nat.le_refl _) v hv
 have h2:=Pc.b9 hf
 have h3:=ho.procs.2.1
 simp only [Pc.size]at h2
 omega
theorem Dl {p:Pg} (ho:p.jO) {f:Pc} (hf:f∈p.procs):f.fin.length≤900000:=by
 have h2:=Pc.b9 hf
 have h3:=ho.procs.2.1
 simp only [Pc.size]at h2
 omega
theorem Bj {p:Pg} (ho:p.jO) {f:Pc} (hf:f∈p.procs):(Sm.dG f.body).length≤900000:=by
 rw [← wo]
 have:=jK f.body
 have h2:=Pc.b9 hf
 have h3:=ho.procs.2.1
 simp only [Pc.size]at h2
 omega
theorem aiU {p:Pg} (ho:p.jO) (hb:p.may=true) {i:Nat} {f:Pc} (hf:p.procs[i]? = some f) (label:aB) (s:St) :
 aD Tryz.prog pe [.dC (gC p) 0, .int .i64 (i:Int), .str label] s (.tuple [.int .i64 (pD f.fin label (Sm.dG f.body)).1, .bool (pD f.fin label (Sm.dG f.body)).2]) s:=by
 refine aD.pure ?_ (by simp [D.bH,D.ok,wa]) rfl s
 obtain⟨sj,rC,wP⟩:=ho.procs
 have wQ:=List.mem_of_getElem? hf
 have A8:=fun s=>XC hb hf (by omega) s
 have uL:=vC (i:Int) 0 (-1) 0 f.body
 have FO:=Bj ho wQ
 have aiV:=Dl ho wQ
 have yZ:=fun s=>py (l:=f.fin) (by omega) label s
 have oL:i<p.procs.length:=(List.getElem?_eq_some_iff.1 hf).1
 generalize hI:Sm.kc (i:Int) 0 (-1) 0 f.body=I at *
 have hIl:I.length≤900000:=by rw [← uL,List.length_map]at FO;exact FO
 obtain⟨R,hR⟩ : ∃ R,pD f.fin label (Sm.dG f.body)=R:=⟨_,rfl⟩
 rw [hR]
 rw [← uL]at hR
 unfold S0
 refine aD.go yF rfl fun B Q hB hQ=> ?_
 have⟨hF,hP,hY,hZ⟩:=bt
 repeat' (first
 | simp only [go_sem,hF,hP,hY,hZ]
 | (with_reducible refine CU (A8 _) ?_)
 | (with_reducible refine aH hQ ?_;simp only [az,aA,Option.some.injEq,exists_eq_left',go_sem,hF,hP,hY,hZ];repeat' (first | exact Ok.out | with_reducible refine aE ?_ ?_ | (simp;done))))
 refine cM 0 0 (bm.ind (ι:=List Im×Nat) (fun j=>I.drop j.2=j.1∧pD f.fin label (j.1.map Im.s)=R) (fun j=>j.1.length)
  (fun j=> [(0, .dC (gC p) 0),(1, .int .i64 (i:Int)),(2, .str label),(12, .slice .shared 17 (I.map ez)),(13, .int .i64 (I.length:Int)),(14, .int .i64 (j.2:Int))]) (fun j=>⟨[],[]⟩) ?_ (I,0) ⟨rfl,hR⟩)
 clear hR
 rintro⟨rest,k⟩ ⟨h1,h2⟩ IH
 dsimp only at h1 h2
 cases rest with
 | nil=>
  have hF:=drop_nil h1
  simp only [List.map_nil,pD]at h2
  rcases Bool.eq_false_or_eq_true (eC f.fin label)with c1 | c1
  ·simp only [c1,if_true]at h2
   subst h2
   repeat' (first
 | simp only [go_sem,hF,hP,hY,hZ,qe,hf,c1]
 | (with_reducible refine CU (yZ _) ?_)
 | (with_reducible refine aH hQ ?_;simp only [az,aA,Option.some.injEq,exists_eq_left',go_sem,hF,hP,hY,hZ];repeat' (first | exact Ok.out | with_reducible refine aE ?_ ?_ | (simp;done))))
  ·simp only [c1,Bool.false_eq_true,if_false]at h2
   subst h2
   repeat' (first
 | simp only [go_sem,hF,hP,hY,hZ,qe,hf,c1]
 | (with_reducible refine CU (yZ _) ?_)
 | (with_reducible refine aH hQ ?_;simp only [az,aA,Option.some.injEq,exists_eq_left',go_sem,hF,hP,hY,hZ];repeat' (first | exact Ok.out | with_reducible refine aE ?_ ?_ | (simp;done))))
 | cons a rest=>
  obtain⟨hP,g2,hF,g4⟩:=drop_cons h1
  have cb:k<4611686018427387904:=by omega
  have C6:a.s∈Sm.dG f.body:=by rw [← uL];exact List.mem_map_of_mem (List.mem_of_getElem? hP)
  have wF:=fun s=>py (l:=a.s.labels) (by have:=FN ho wQ C6;omega) label s
  simp only [List.map_cons,pD]at h2
  rcases Bool.eq_false_or_eq_true (eC a.s.labels label)with c1 | c1
  ·simp only [c1,if_true]at h2
   subst h2
   repeat' (first
 | simp only [go_sem,hF,hP,hY,hZ,c1]
 | (with_reducible refine CU (wF _) ?_)
 | (with_reducible refine aH hQ ?_;simp only [az,aA,Option.some.injEq,exists_eq_left',go_sem,hF,hP,hY,hZ];repeat' (first | exact Ok.out | with_reducible refine aE ?_ ?_ | (simp;done))))
  ·simp only [c1,Bool.false_eq_true,if_false]at h2
   repeat' (first
 | simp only [go_sem,hF,hP,hY,hZ,c1]
 | (with_reducible refine CU (wF _) ?_)
 | (with_reducible refine aH hQ ?_;simp only [az,aA,Option.some.injEq,exists_eq_left',go_sem,hF,hP,hY,hZ];repeat' (first | exact Ok.out | with_reducible refine aE ?_ ?_ | (simp;done))))
   refine eo 0 0 ?_ ?_ (IH (rest,k+1) ⟨g2,h2⟩ (Nat.lt_succ_self _))
   ·(simp only [go_sem,hF,hP,hY,hZ,aM cb];try exact bU)
   ·(simp only [go_sem,hF,hP,hY,hZ,aM cb];try exact bU)
theorem Ur {p:Pg} (ho:p.jO) (hb:p.may=true) {i:Nat} {f:Pc} (hf:p.procs[i]? = some f) (m:Im) (hm:m.proc=(i:Int)) (s:St) :
 aD Tryz.prog sC [.dC (gC p) 0, .agg (ez m)] s (.bool (Bh f.labels m.s m.loop)) s:=by
 refine aD.pure ?_ (by simp [D.bH,D.ok,wa,J4]) rfl s
 have rq:=fun s=>aiU ho hb hf m.s.name s
 have XE:=Dk f.fin m.s.name (Sm.dG f.body)
 rw [← hm]at rq
 obtain⟨A,hA⟩ : ∃ A,pD f.fin m.s.name (Sm.dG f.body)=A:=⟨_,rfl⟩
 rw [hA]at rq XE
 obtain⟨R,hR⟩ : ∃ R,Bh f.labels m.s m.loop=R:=⟨_,rfl⟩
 rw [hR]
 unfold Bh Pc.labels at hR
 unfold S0
 rcases Bool.eq_false_or_eq_true (m.s.kind==7)with c1 | c1
 ·simp only [c1,Bool.true_or,if_true]at hR
  subst hR
  refine aD.go nL rfl fun B Q hB hQ=> ?_
  have⟨hF,hP,hY,hZ⟩:=bt
  repeat' (first
 | simp only [go_sem,hF,hP,hY,hZ,c1]
 | (with_reducible refine aH hQ ?_;simp only [az,aA,Option.some.injEq,exists_eq_left',go_sem,hF,hP,hY,hZ];repeat' (first | exact Ok.out | with_reducible refine aE ?_ ?_ | (simp;done))))
 rcases Bool.eq_false_or_eq_true (m.s.kind==8)with c2 | c2
 ·simp only [c1,c2,Bool.or_true,if_true]at hR
  subst hR
  refine aD.go nL rfl fun B Q hB hQ=> ?_
  have⟨hF,hP,hY,hZ⟩:=bt
  repeat' (first
 | simp only [go_sem,hF,hP,hY,hZ,c1,c2]
 | (with_reducible refine aH hQ ?_;simp only [az,aA,Option.some.injEq,exists_eq_left',go_sem,hF,hP,hY,hZ];repeat' (first | exact Ok.out | with_reducible refine aE ?_ ?_ | (simp;done))))
 rcases Bool.eq_false_or_eq_true (m.s.kind==10)with c3 | c3
 ·simp only [c1,c2,c3,Bool.or_self,Bool.false_eq_true,if_false,if_true, ← XE]at hR
  subst hR
  refine aD.go nL rfl fun B Q hB hQ=> ?_
  have⟨hF,hP,hY,hZ⟩:=bt
  repeat' (first
 | simp only [go_sem,hF,hP,hY,hZ,c1,c2,c3]
 | (with_reducible refine CU (rq _) ?_)
 | (with_reducible refine aH hQ ?_;simp only [az,aA,Option.some.injEq,exists_eq_left',go_sem,hF,hP,hY,hZ];repeat' (first | exact Ok.out | with_reducible refine aE ?_ ?_ | (simp;done))))
 ·simp only [c1,c2,c3,Bool.or_self,Bool.false_eq_true,if_false]at hR
  subst hR
  refine aD.go nL rfl fun B Q hB hQ=> ?_
  have⟨hF,hP,hY,hZ⟩:=bt
  repeat' (first
 | simp only [go_sem,hF,hP,hY,hZ,c1,c2,c3]
 | (with_reducible refine aH hQ ?_;simp only [az,aA,Option.some.injEq,exists_eq_left',go_sem,hF,hP,hY,hZ];repeat' (first | exact Ok.out | with_reducible refine aE ?_ ?_ | (simp;done))))
end Go.Abs

/-! Jm3 -/

namespace Go.Abs
set_option maxRecDepth 8000
open Go.Proofs
theorem Us {p:Pg} (h:p.jO) (lS:(p.scope.1==0)=true) (s:St):aD Tryz.prog o8 [.agg (cj p)] s (.dC (gC p) 0) s:=by
 refine aD.pure ?_ (by simp [D.bH,D.ok,iX]) (by simp [D.ok,wa]) s
 obtain⟨sj,rC,wP⟩:=h.procs
 have rp:=fun s=>qh h s
 have dN:=fun s=>AT (p:=p) (by omega) s
 have b0:(p.scope.1 != 0) = !(p.scope.1==0):=rfl
 rw [lS]at b0
 unfold S0
 refine aD.go vb rfl fun B Q hB hQ=> ?_
 have⟨hF,hP,hY,hZ⟩:=bt
 repeat' (first
 | simp only [go_sem,hF,hP,hY,hZ,b0,Bool.not_true]
 | (with_reducible refine CU (rp _) ?_)
 | (with_reducible refine CU (dN _) ?_)
 | (with_reducible refine aH hQ ?_;simp only [az,aA,Option.some.injEq,exists_eq_left',go_sem,hF,hP,hY,hZ];repeat' (first | exact Ok.out | with_reducible refine aE ?_ ?_ | (simp;done))))
theorem Ut {p:Pg} (h:p.jO) (lS:(p.scope.1==0)=false) (s:St):aD Tryz.prog o8 [.agg (cj p)] s .eQ s:=by
 refine aD.pure ?_ (by simp [D.bH,D.ok,iX]) rfl s
 have rp:=fun s=>qh h s
 have b0:(p.scope.1 != 0) = !(p.scope.1==0):=rfl
 rw [lS]at b0
 unfold S0
 refine aD.go vb rfl fun B Q hB hQ=> ?_
 have⟨hF,hP,hY,hZ⟩:=bt
 repeat' (first
 | simp only [go_sem,hF,hP,hY,hZ,b0,Bool.not_false]
 | (with_reducible refine CU (rp _) ?_)
 | (with_reducible refine aH hQ ?_;simp only [az,aA,Option.some.injEq,exists_eq_left',go_sem,hF,hP,hY,hZ];repeat' (first | exact Ok.out | with_reducible refine aE ?_ ?_ | (simp;done))))
mutual
theorem Qk {pr up next loop:Int} : ∀ (s:Sm) (m:Im),m∈s.vB pr up next loop→m.proc=pr
 | ⟨id,kind,labels,name,pc,x,has,args,a7,aW⟩,m,h=>by
  simp only [Sm.vB]at h
  rcases List.mem_cons.1 h with rfl | h
  ·rfl
  ·rcases List.mem_append.1 h with h | h
   ·exact tY a7 m h
   ·exact tY aW m h
theorem tY {pr up next loop:Int} : ∀ (l:List Sm) (m:Im),m∈Sm.kc pr up next loop l→m.proc=pr
 | s::l,m,h=>by
  simp only [Sm.kc]at h
  rcases List.mem_append.1 h with h | h
  ·exact Qk s m h
  ·exact tY l m h
end
theorem uQ : ∀ a b:List Sm,il (a++b)=il a++il b
 | [],b=>rfl
 | v::a,b=>by simp only [List.cons_append,il,uQ a b,List.append_assoc]
mutual
theorem G4 : ∀ s:Sm,(il s.pre).length≤s.size
 | ⟨id,kind,labels,name,pc,x,has,args,a7,aW⟩=>by
  have:=pE a7;have:=pE aW
  simp only [Sm.pre,il,uQ,List.length_append,Sm.size];omega
theorem pE : ∀ l:List Sm,(il (Sm.dG l)).length≤Sm.aY l
 | []=>Nat.le_refl _
 | s::l=>by
  have:=G4 s;have:=pE l
  simp only [Sm.dG,uQ,List.length_append,Sm.aY];omega
end
theorem MZ (seen l:List aB):(iT seen l).1.length≤seen.length+l.length:=(Dj l seen).2
theorem FP {p:Pg} (h:p.jO) (s:St):aD Tryz.prog np [.agg (cj p)] s (.agg [.int .i64 p.jump.1, .int .i64 p.jump.2]) s:=by
 refine aD.pure ?_ (by simp [D.bH,D.ok,iX]) rfl s
 obtain⟨sj,rC,wP⟩:=h.procs
 obtain⟨R,hR⟩ : ∃ R,p.jump=R:=⟨_,rfl⟩
 rw [hR]
 unfold Pg.jump at hR
 unfold S0
 rcases Bool.eq_false_or_eq_true (p.scope.1==0)with lS | lS
 case inr=>
  have hs:=fun s=>Ut h lS s
  simp only [lS,Bool.false_eq_true,if_false]at hR
  subst hR
  refine aD.go u9 rfl fun B Q hB hQ=> ?_
  have⟨hF,hP,hY,hZ⟩:=bt
  repeat' (first
 | simp only [go_sem,hF,hP,hY,hZ]
 | (with_reducible refine CU (hs _) ?_)
 | (with_reducible refine aH hQ ?_;simp only [az,aA,Option.some.injEq,exists_eq_left',go_sem,hF,hP,hY,hZ];repeat' (first | exact Ok.out | with_reducible refine aE ?_ ?_ | (simp;done))))
 have hs:=fun s=>Us h lS s
 have hb:=C8 lS
 simp only [lS,if_true]at hR
 refine aD.go u9 rfl fun B Q hB hQ=> ?_
 have⟨hF,hP,hY,hZ⟩:=bt
 repeat' (first
 | simp only [go_sem,hF,hP,hY,hZ]
 | (with_reducible refine CU (hs _) ?_)
 | (with_reducible refine aH hQ ?_;simp only [az,aA,Option.some.injEq,exists_eq_left',go_sem,hF,hP,hY,hZ];repeat' (first | exact Ok.out | with_reducible refine aE ?_ ?_ | (simp;done))))
 refine cM 2 0 (bm.ind (ι:=List Pc×Nat) (fun i=>p.procs.drop i.2=i.1∧vD 7 (Bi i.1)=R) (fun i=>i.1.length)
  (fun i=> [(1, .ptr 0 0),(2, .ptr 1 0),(3, .dC (gC p) 0),(16, .slice .shared 5 (p.procs.map cz)),(17, .int .i64 (p.procs.length:Int)),(18, .int .i64 (i.2:Int))]) (fun i=>⟨[cj p,[.int .i64 0, .int .i64 0]],[]⟩) ?_ (p.procs,0) ⟨rfl,hR⟩)
 clear hR
 rintro⟨rest,k⟩ ⟨h1,hR⟩ IH
 dsimp only at h1 hR
 cases rest with
 | nil=>
  have hF:=drop_nil h1
  simp only [Bi,vD]at hR
  subst hR
  repeat' (first
 | simp only [go_sem,hF,hP,hY,hZ]
 | (with_reducible refine aH hQ ?_;simp only [az,aA,Option.some.injEq,exists_eq_left',go_sem,hF,hP,hY,hZ];repeat' (first | exact Ok.out | with_reducible refine aE ?_ ?_ | (simp;done))))
 | cons f rest=>
  obtain⟨hP,g2,hF,g4⟩:=drop_cons h1
  have cb:k<4611686018427387904:=by omega
  have wQ:=List.mem_of_getElem? hP
  have A8:=fun s=>XC hb hP (by omega) s
  have uL:=vC (k:Int) 0 (-1) 0 f.body
  have yY:=Qi (k:Int) f
  have J3:=fun m=>tY (pr:=(k:Int)) (up:=0) (next:= -1) (loop:=0) f.body m
  have FO:=Bj h wQ
  have aiV:=Dl h wQ
  have XF:(il (Sm.dG f.body)).length≤900000:=by
   have h1:=pE f.body
   have h2:=Pc.b9 wQ
   simp only [Pc.size]at h2
   omega
  rw [← uL]at XF
  generalize hI:Sm.kc (k:Int) 0 (-1) 0 f.body=I at *
  have hIl:I.length≤900000:=by rw [← uL,List.length_map]at FO;exact FO
  simp only [Bi, ← yY]at hR
  obtain⟨J,hJ⟩ : ∃ J,yw f.labels f.fin [] (I.map Im.pair)=J:=⟨_,rfl⟩
  rw [hJ]at hR
  have hld:=fun(m:Im) (hm:m∈I) s=>Ur h hb hP m (J3 m hm) s
  repeat' (first
 | simp only [go_sem,hF,hP,hY,hZ]
 | (with_reducible refine CU (A8 _) ?_)
 | (with_reducible refine aH hQ ?_;simp only [az,aA,Option.some.injEq,exists_eq_left',go_sem,hF,hP,hY,hZ];repeat' (first | exact Ok.out | with_reducible refine aE ?_ ?_ | (simp;done))))
  refine bm.oD 6 1 rfl ?_
  simp only [go_sem,hF,hP,hY,hZ]
  refine cM 3 1 (bm.ind (ι:=List Im×Nat×List aB×Nat) (fun i=>I.drop i.2.1=i.1∧yw f.labels f.fin i.2.2.1 (i.1.map Im.pair)=J∧i.2.2.2=i.2.2.1.length∧i.2.2.1.length+(il (i.1.map Im.s)).length≤900000) (fun i=>i.1.length)
   (fun i=> [(1, .ptr 0 0),(2, .ptr 1 0),(3, .dC (gC p) 0),(5, .ptr 2 0),(6, .slice (.tok 0) 1 (i.2.2.1.map encStr)),(16, .slice .shared 5 (p.procs.map cz)),(17, .int .i64 (p.procs.length:Int)),(18, .int .i64 (k:Int)),
    (25, .slice .shared 17 (I.map ez)),(26, .int .i64 (I.length:Int)),(27, .int .i64 (i.2.1:Int))]) (fun i=>⟨[cj p,[.int .i64 0, .int .i64 0],cz f],[some i.2.2.2]⟩) ?_ (I,0,[],0) ⟨rfl,hJ,rfl,by simpa using XF⟩)
  clear hJ
  rintro⟨tW,k2,seen,n2⟩ ⟨j1,j2,j3,j4⟩ AZ
  dsimp only at j1 j2 j3 j4
  subst j3
  cases tW with
  | nil=>
   have Kg:=drop_nil j1
   simp only [List.map_nil,yw]at j2
   simp only [List.map_nil,il,List.length_nil,Nat.add_zero]at j4
   have Dm:=fun {s:St} {t:Nat} (ht:s.aC[t]? = some (some seen.length))=>MX (seen:=seen) (l:=f.fin) (by omega) ht
   obtain⟨P1,XG⟩ : ∃ P1,iT seen f.fin=P1:=⟨_,rfl⟩
   rw [XG]at j2 Dm
   rcases Bool.eq_false_or_eq_true P1.2 with c1 | c1
   ·simp only [c1,if_true]at j2
    subst j2
    simp only at hR
    repeat' (first
 | simp only [go_sem,hF,hP,hY,hZ,Kg,c1,Bool.not_true]
 | (with_reducible refine CU (Dm (by with_unfolding_all rfl)) ?_)
 | (with_reducible refine aH hQ ?_;simp only [az,aA,Option.some.injEq,exists_eq_left',go_sem,hF,hP,hY,hZ];repeat' (first | exact Ok.out | with_reducible refine aE ?_ ?_ | (simp;done))))
    refine eo 2 0 ?_ ?_ (IH (rest,k+1) ⟨g2,hR⟩ (Nat.lt_succ_self _))
    ·(simp only [go_sem,hF,hP,hY,hZ,aM cb];try exact bU)
    ·(simp only [go_sem,hF,hP,hY,hZ,aM cb];try exact bU)
   ·simp only [c1,Bool.false_eq_true,if_false]at j2
    subst j2
    simp only [vD]at hR
    subst hR
    repeat' (first
 | simp only [go_sem,hF,hP,hY,hZ,Kg,c1,Bool.not_false]
 | (with_reducible refine CU (Dm (by with_unfolding_all rfl)) ?_)
 | (with_reducible refine aH hQ ?_;simp only [az,aA,Option.some.injEq,exists_eq_left',go_sem,hF,hP,hY,hZ];repeat' (first | exact Ok.out | with_reducible refine aE ?_ ?_ | (simp;done))))
  | cons m tW=>
   obtain⟨nD,j5,vx,j6⟩:=drop_cons j1
   have qT:k2<4611686018427387904:=by omega
   have hmm:=List.mem_of_getElem? nD
   have SC:=fun s=>hld m hmm s
   simp only [List.map_cons,Im.pair,yw]at j2
   simp only [List.map_cons,il,List.length_append]at j4
   have Dm:=fun {s:St} {t:Nat} (ht:s.aC[t]? = some (some seen.length))=>MX (seen:=seen) (l:=m.s.labels) (by omega) ht
   have Q9:=MZ seen m.s.labels
   obtain⟨P1,XG⟩ : ∃ P1,iT seen m.s.labels=P1:=⟨_,rfl⟩
   rw [XG]at j2 Dm Q9
   rcases Bool.eq_false_or_eq_true P1.2 with c1 | c1
   ·rcases Bool.eq_false_or_eq_true (Bh f.labels m.s m.loop)with c2 | c2
    ·simp only [c1,c2,if_true]at j2
     repeat' (first
 | simp only [go_sem,hF,hP,hY,hZ,nD,vx,c1,c2,Bool.not_true]
 | (with_reducible refine CU (Dm (by with_unfolding_all rfl)) ?_)
 | (with_reducible refine CU (SC _) ?_)
 | (with_reducible refine aH hQ ?_;simp only [az,aA,Option.some.injEq,exists_eq_left',go_sem,hF,hP,hY,hZ];repeat' (first | exact Ok.out | with_reducible refine aE ?_ ?_ | (simp;done))))
     refine eo 3 1 ?_ ?_ (AZ (tW,k2+1,P1.1,P1.1.length) ⟨j5,j2,rfl,by dsimp only;omega⟩ (Nat.lt_succ_self _))
     ·(simp only [go_sem,hF,hP,hY,hZ,aM qT];try exact bU)
     ·(simp only [go_sem,hF,hP,hY,hZ,aM qT];try exact bU)
    ·simp only [c1,c2,if_true,Bool.false_eq_true,if_false]at j2
     subst j2
     simp only [vD]at hR
     subst hR
     repeat' (first
 | simp only [go_sem,hF,hP,hY,hZ,nD,vx,c1,c2,Bool.not_true,Bool.not_false]
 | (with_reducible refine CU (Dm (by with_unfolding_all rfl)) ?_)
 | (with_reducible refine CU (SC _) ?_)
 | (with_reducible refine aH hQ ?_;simp only [az,aA,Option.some.injEq,exists_eq_left',go_sem,hF,hP,hY,hZ];repeat' (first | exact Ok.out | with_reducible refine aE ?_ ?_ | (simp;done))))
   ·simp only [c1,Bool.false_eq_true,if_false]at j2
    subst j2
    simp only [vD]at hR
    subst hR
    repeat' (first
 | simp only [go_sem,hF,hP,hY,hZ,nD,vx,c1,Bool.not_false]
 | (with_reducible refine CU (Dm (by with_unfolding_all rfl)) ?_)
 | (with_reducible refine CU (SC _) ?_)
 | (with_reducible refine aH hQ ?_;simp only [az,aA,Option.some.injEq,exists_eq_left',go_sem,hF,hP,hY,hZ];repeat' (first | exact Ok.out | with_reducible refine aE ?_ ?_ | (simp;done))))
end Go.Abs

/-! Rj1 -/

namespace Go.Abs
set_option maxRecDepth 8000
open Go.Proofs
theorem Ql (x:It):(iC x)[2]? = some (.slice .shared 1 (x.s.labels.map encStr)):=nd rfl
theorem M3 (x:It):(iC x)[14]? = some (.int .i64 x.bZ):=nd rfl
attribute [go_sem] Ql M3
end Go.Abs

/-! Rj2 -/

namespace Go.Abs
set_option maxRecDepth 8000
open Go.Proofs
end Go.Abs

/-! Swap0 -/

namespace Go.Abs
def zc (a b t:aB):aB:=if t==a then b else if t==b then a else t
mutual
def Ex.swap (a b:aB):Ex→Ex
 | ⟨op,n,name,kids⟩=>⟨op,n,zc a b name,Ex.tZ a b kids⟩
def Ex.tZ (a b:aB):List Ex→List Ex
 | []=> []
 | x::l=>x.swap a b::Ex.tZ a b l
end
def Ar.swap (a b:aB) (x:Ar):Ar:=⟨x.ref,zc a b x.name,x.x.swap a b⟩
mutual
def Sm.swap (a b:aB):Sm→Sm
 | ⟨id,kind,labels,name,proc,x,has,args,a7,aW⟩=>⟨id,kind,labels.map (zc a b),zc a b name,zc a b proc,x.swap a b,has,args.map (Ar.swap a b),Sm.tZ a b a7,Sm.tZ a b aW⟩
def Sm.tZ (a b:aB):List Sm→List Sm
 | []=> []
 | s::l=>s.swap a b::Sm.tZ a b l
end
def Pm.swap (a b:aB) (x:Pm):Pm:=⟨zc a b x.name,x.ref⟩
def Pc.swap (a b:aB) (f:Pc):Pc:=⟨zc a b f.name,f.params.map (Pm.swap a b),f.vars.map (zc a b),Sm.tZ a b f.body,f.fin.map (zc a b)⟩
def Pg.swap (a b:aB) (p:Pg):Pg:=⟨p.globals.map (zc a b),p.procs.map (Pc.swap a b)⟩
end Go.Abs

/-! Swap2p -/

namespace Go.Abs
def It.swap (a b:aB) (i:It):It:=⟨i.s.swap a b,i.deep,i.bZ,i.aW⟩
end Go.Abs

/-! ToP -/

namespace Go.Abs
def SJ:List Sm→List aB
 | []=> []
 | v::l=>v.said++SJ l
def aaM (p:Pg):List aB→List aB
 | []=> []
 | n::l=>SJ (qW p n)++aaM p l
end Go.Abs

/-! Al1 -/

namespace Go.Abs
set_option maxRecDepth 8000
open Go.Proofs
def nQ (nm:aB) (T:List aB) (seen:List aB):List Ar→Bool
 | []=>true
 | a::l=>if a.ref then(if eC seen a.name || (a.name==nm || eC T a.name)then false else nQ nm T (seen++ [a.name]) l)else nQ nm T seen l
def XH (T:List aB) (seen:List aB):List Ar→Bool
 | []=>true
 | a::l=>if a.ref then(if eC seen a.name || eC T a.name then false else XH T (seen++ [a.name]) l)else XH T seen l
def Sm.aiY (v:Sm):List aB:=if v.name != []then [v.name]else []
theorem Qm {v:Sm} (Ao:v.args.length<1000000000) {T:List aB} (hT:T.length<4611686018427387904) (s:St) :
 aD Tryz.prog p7 [.agg (bc v), .slice .shared 1 (T.map encStr)] s (.bool (nQ v.name T [] v.args)) s:=by
 refine aD.pure ?_ (by simp [D.bH,D.ok,mE,Tag.ok,eH]) rfl s
 generalize hR:nQ v.name T [] v.args=R
 have SK:=fun x s=>py hT x s
 unfold S0
 refine aD.go zE rfl fun B Q hB hQ=> ?_
 have⟨hF,hP,hY,hZ⟩:=bt
 repeat' (first
 | simp only [go_sem,hF,hP,hY,hZ]
 | (with_reducible refine aH hQ ?_;simp only [az,aA,Option.some.injEq,exists_eq_left',go_sem,hF,hP,hY,hZ];repeat' (first | exact Ok.out | with_reducible refine aE ?_ ?_ | (simp;done))))
 refine bm.oD 5 1 rfl ?_
 simp only [go_sem,hF,hP,hY,hZ]
 refine cM 1 1 (bm.ind (ι:=List Ar×Nat×List aB×Nat) (fun i=>v.args.drop i.2.1=i.1∧nQ v.name T i.2.2.1 i.1=R∧i.2.2.1.length≤i.2.1∧i.2.2.2=i.2.2.1.length) (fun i=>i.1.length)
  (fun i=> [(1, .slice .shared 1 (T.map encStr)),(2, .ptr 0 0),(5, .slice (.tok 0) 1 (i.2.2.1.map encStr)),(9, .slice .shared 6 (v.args.map dO)),(10, .int .i64 (v.args.length:Int)),(11, .int .i64 (i.2.1:Int))]) (fun i=>⟨[bc v],[some i.2.2.2]⟩) ?_ (v.args,0,[],0) ⟨rfl,hR,Nat.le_refl _,rfl⟩)
 clear hR
 rintro⟨rest,k,seen,n'⟩ ⟨h1,h2,h3,h4⟩ IH
 dsimp only at h1 h2 h3 h4
 subst h4
 cases rest with
 | nil=>
  have hF:=drop_nil h1
  simp only [nQ]at h2
  subst h2
  repeat' (first
 | simp only [go_sem,hF,hP,hY,hZ]
 | (with_reducible refine aH hQ ?_;simp only [az,aA,Option.some.injEq,exists_eq_left',go_sem,hF,hP,hY,hZ];repeat' (first | exact Ok.out | with_reducible refine aE ?_ ?_ | (simp;done))))
 | cons a rest=>
  obtain⟨hP,g2,hF,g4⟩:=drop_cons h1
  have cb:k<4611686018427387904:=by omega
  have hY:(seen.length+1)*17≤bI:=by unfold bI;omega
  have oZ:=fun g s=>ie (l:=seen) (by omega) a.name g s
  simp only [nQ]at h2
  rcases Bool.eq_false_or_eq_true a.ref with c1 | c1
  case inr=>
   simp only [c1,Bool.false_eq_true,if_false]at h2
   repeat' (first
 | simp only [go_sem,hF,hP,hY,hZ,c1,Bool.not_false]
 | (with_reducible refine aH hQ ?_;simp only [az,aA,Option.some.injEq,exists_eq_left',go_sem,hF,hP,hY,hZ];repeat' (first | exact Ok.out | with_reducible refine aE ?_ ?_ | (simp;done))))
   refine eo 1 1 ?_ ?_ (IH (rest,k+1,seen,_) ⟨g2,h2,by dsimp only;omega,rfl⟩ (Nat.lt_succ_self _))
   ·(simp only [go_sem,hF,hP,hY,hZ,aM cb];try exact bU)
   ·(simp only [go_sem,hF,hP,hY,hZ,aM cb];try exact bU)
  simp only [c1,if_true]at h2
  rcases Bool.eq_false_or_eq_true (eC seen a.name)with c2 | c2
  ·simp only [c2,Bool.true_or,if_true]at h2
   subst h2
   repeat' (first
 | simp only [go_sem,hF,hP,hY,hZ,c1,c2,Bool.not_true]
 | (with_reducible refine CU (oZ _ _) ?_)
 | (with_reducible refine CU (SK _ _) ?_)
 | (with_reducible refine aH hQ ?_;simp only [az,aA,Option.some.injEq,exists_eq_left',go_sem,hF,hP,hY,hZ];repeat' (first | exact Ok.out | with_reducible refine aE ?_ ?_ | (simp;done))))
  rcases Bool.eq_false_or_eq_true (a.name==v.name)with c3 | c3
  ·simp only [c2,c3,Bool.false_or,Bool.true_or,if_true]at h2
   subst h2
   repeat' (first
 | simp only [go_sem,hF,hP,hY,hZ,c1,c2,c3,Bool.not_true]
 | (with_reducible refine CU (oZ _ _) ?_)
 | (with_reducible refine CU (SK _ _) ?_)
 | (with_reducible refine aH hQ ?_;simp only [az,aA,Option.some.injEq,exists_eq_left',go_sem,hF,hP,hY,hZ];repeat' (first | exact Ok.out | with_reducible refine aE ?_ ?_ | (simp;done))))
  rcases Bool.eq_false_or_eq_true (eC T a.name)with c4 | c4
  ·simp only [c2,c3,c4,Bool.false_or,if_true]at h2
   subst h2
   repeat' (first
 | simp only [go_sem,hF,hP,hY,hZ,c1,c2,c3,c4,Bool.not_true]
 | (with_reducible refine CU (oZ _ _) ?_)
 | (with_reducible refine CU (SK _ _) ?_)
 | (with_reducible refine aH hQ ?_;simp only [az,aA,Option.some.injEq,exists_eq_left',go_sem,hF,hP,hY,hZ];repeat' (first | exact Ok.out | with_reducible refine aE ?_ ?_ | (simp;done))))
  ·simp only [c2,c3,c4,Bool.false_or,Bool.false_eq_true,if_false]at h2
   repeat' (first
 | simp only [go_sem,hF,hP,hY,hZ,c1,c2,c3,c4,Bool.not_true]
 | (with_reducible refine CU (oZ _ _) ?_)
 | (with_reducible refine CU (SK _ _) ?_)
 | (with_reducible refine aH hQ ?_;simp only [az,aA,Option.some.injEq,exists_eq_left',go_sem,hF,hP,hY,hZ];repeat' (first | exact Ok.out | with_reducible refine aE ?_ ?_ | (simp;done))))
   refine eo 1 1 ?_ ?_ (IH (rest,k+1,seen++ [a.name],seen.length+1) ⟨g2,h2,by simp;omega,by simp⟩ (Nat.lt_succ_self _))
   ·(simp only [go_sem,hF,hP,hY,hZ,aM cb,List.map_append,List.map_cons,List.map_nil,encStr];try exact bU)
   ·(simp only [go_sem,hF,hP,hY,hZ,aM cb,List.map_append,List.map_cons,List.map_nil,encStr];try exact bU)
def lL (p:Pg):List Pc→List D
 | []=> []
 | f::l=> .str f.name:: .slice .shared 1 ((p.oo f.name).map encStr)::lL p l
theorem M4 (p:Pg) : ∀ l,D.bH 0 0 (lL p l)=true
 | []=>rfl
 | f::l=>by simp only [lL,D.bH,D.ok,Tag.ok,eH,M4 p l];rfl
theorem Uu (n m:Nat) (p:Pg) (l:List Pc):D.gq n m (lL p l)=lL p l:=gI n m _ (M4 p l)
attribute [go_sem] Uu
theorem FQ (p:Pg) : ∀ l m,lL p (l++m)=lL p l++lL p m
 | [],m=>rfl
 | f::l,m=>by simp only [List.cons_append,lL,FQ p l m]
theorem FR {p:Pg} {nm:aB} {d:D} : ∀ {l:List Pc},nm∉l.map (·.name)→ug nm d (lL p l)=some (lL p l++ [.str nm,d])
 | [],_=>rfl
 | f::l,h=>by
  simp only [List.map_cons,List.mem_cons,not_or]at h
  have:(f.name==nm)=false:=by simpa using fun e=>h.1 e.symm
  simp only [lL,ug,this,Bool.false_eq_true,if_false,FR h.2,List.cons_append]
theorem FT {p:Pg} {nm:aB} {z:D} : ∀ {l:List Pc} {f:Pc},jG nm l=some f→vI nm z (lL p l)=some (.slice .shared 1 ((p.oo nm).map encStr))
 | g::l,f,h=>by
  simp only [jG]at h
  simp only [lL,vI]
  split at h
  ·rename_i e
   rw [if_pos e,eq_of_beq e]
  ·rename_i e
   rw [if_neg e]
   exact FT h
theorem Uv (l:List aB) : ∀ (s:List aB),yX s l=false→∀ a x b,l=a++x::b→x∉s++a:=by
 induction l with
 | nil=>intro s _ a x b e;cases a <;> cases e
 | cons y l ih=>
  intro s h a x b e
  simp only [yX]at h
  split at h
  ·cases h
  ·rename_i hy
   cases a with
   | nil=>cases e;simpa [← iN]using hy
   | cons z a=>
    cases e
    have:=ih (s++ [y]) h a x b rfl
    simpa using this
end Go.Abs

/-! Al2 -/

namespace Go.Abs
set_option maxRecDepth 8000
open Go.Proofs
theorem Qn {p:Pg} (h:(p.arity.1==0)=true):(p.scope.1==0)=true∧∀ v∈p.pre,(v.kind==4)=true→v.qx p=true:=by
 unfold Pg.arity at h
 split at h
 ·rename_i e
  refine⟨e,fun v hv hk=> ?_⟩
  have : ∀ l:List Sm,((pC 6 (FD p l)).1==0)=true→∀ v∈l,(v.kind==4)=true→v.qx p=true:=by
   intro l
   induction l with
   | nil=>intro _ v m;cases m
   | cons a l ih=>
    intro h v m hk
    simp only [FD]at h
    split at h
    ·cases h
    ·rename_i c
     rcases List.mem_cons.1 m with rfl | m
     ·simpa [hk]using c
     ·exact ih h v m hk
  exact this _ h v hv hk
 ·cases h
theorem M5 {p:Pg} {v:Sm} (h:v.qx p=true) : ∃ f,p.find v.proc=some f:=by
 unfold Sm.qx at h
 cases e:p.find v.proc with
 | some f=>exact⟨f,rfl⟩
 | none=>rw [e]at h;simp at h
def Sm.HG (p:Pg) (v:Sm):Bool:=nQ v.name (p.oo v.proc) [] v.args
def M6 (p:Pg):List Sm→Option Sm
 | []=>none
 | v::l=>if v.kind==4 && !(v.HG p)then some v else M6 p l
def Pg.alias (p:Pg):Int×Int:=if p.arity.1==0 then pC 8 (M6 p p.pre)else(1,0)
theorem FU {p:Pg} (h:p.jO) (nm:aB):(p.oo nm).length<4611686018427387904:=by
 unfold Pg.oo
 cases hs:p.wh nm with
 | none=>dsimp only;decide
 | some f=>
  obtain⟨lS,hf⟩:=Di hs
  have h1:=(FL lS hf).len
  have h2:=h.procs
  have h3:=(wk h (iS (p.work nm)) []).2
  have h4:(iS (p.work nm)).length*1800000≤900000*1800000:=Nat.mul_le_mul_right _ (by omega)
  have h5:(iS (p.qi nm)).length≤(p.qi nm).length:=tU _ _ (rV (kP _).1) fun x m=>((kP _).2 x).1 m
  dsimp only
  unfold Pg.qi at *
  simp only [List.length_nil]at h3
  omega
theorem Ki {v:Sm} (hv:v.om):v.args.length<1000000000:=by have:=Ar.dq v.args;have:=hv.2.2;omega
theorem Dn {p:Pg} (h:p.jO) (s:St):aD Tryz.prog ow [.agg (cj p)] s (.agg [.int .i64 p.alias.1, .int .i64 p.alias.2]) s:=by
 refine aD.pure ?_ (by simp [D.bH,D.ok,iX]) rfl s
 obtain⟨sj,rC,wP⟩:=h.procs
 have rp:=fun s=>zL h s
 have dN:=fun s=>AT (p:=p) (by omega) s
 have hL:=(oO p).1
 have hll:=oP p
 generalize hR:p.alias=R
 simp only [Pg.alias]at hR
 unfold S0
 have b0:(p.arity.1 != 0) = !(p.arity.1==0):=rfl
 rcases Bool.eq_false_or_eq_true (p.arity.1==0)with b1 | b1
 case inr=>
  rw [b1]at b0
  simp only [b1,Bool.false_eq_true,if_false]at hR
  subst hR
  refine aD.go tC rfl fun B Q hB hQ=> ?_
  have⟨hF,hP,hY,hZ⟩:=bt
  repeat' (first
 | simp only [go_sem,hF,hP,hY,hZ,b0,Bool.not_false]
 | (with_reducible refine CU (rp _) ?_)
 | (with_reducible refine aH hQ ?_;simp only [az,aA,Option.some.injEq,exists_eq_left',go_sem,hF,hP,hY,hZ];repeat' (first | exact Ok.out | with_reducible refine aE ?_ ?_ | (simp;done))))
 rw [b1]at b0
 obtain⟨lS,jY⟩:=Qn b1
 have htw:=(FI lS).2.1
 simp only [b1,if_true, ← hL]at hR
 refine aD.go tC rfl fun B Q hB hQ=> ?_
 have⟨hF,hP,hY,hZ⟩:=bt
 repeat' (first
 | simp only [go_sem,hF,hP,hY,hZ,b0,Bool.not_true]
 | (with_reducible refine CU (rp _) ?_)
 | (with_reducible refine aH hQ ?_;simp only [az,aA,Option.some.injEq,exists_eq_left',go_sem,hF,hP,hY,hZ];repeat' (first | exact Ok.out | with_reducible refine aE ?_ ?_ | (simp;done))))
 refine eo 3 0 ?_ ?_ (bm.ind (ι:=List Pc×Nat×List Pc) (fun i=>p.procs.drop i.2.1=i.1∧p.procs=i.2.2++i.1) (fun i=>i.1.length)
  (fun i=> [(1, .ptr 0 0),(2, .ptr 1 0),(3, .fW 2),(15, .slice .shared 5 (p.procs.map cz)),(16, .int .i64 (p.procs.length:Int)),(17, .int .i64 (i.2.1:Int))]) (fun i=>⟨[cj p,[.int .i64 0, .int .i64 0],lL p i.2.2],[]⟩) ?_ (p.procs,0,[]) ⟨rfl,rfl⟩)
 ·(simp only [go_sem,hF,hP,hY,hZ,lL];try exact bU)
 ·(simp only [go_sem,hF,hP,hY,hZ,lL];try exact bU)
 rintro⟨rest,k,done⟩ ⟨h1,h2⟩ IH
 dsimp only at h1 h2
 cases rest with
 | cons a rest=>
  obtain⟨hP,g2,hF,g4⟩:=drop_cons h1
  have cb:k<4611686018427387904:=by omega
  have U6:=fun s=>MS h a.name s
  have Xd:a.name∉done.map (·.name):=by
   have:=Uv _ [] htw (done.map (·.name)) a.name (rest.map (·.name)) (by simp [Pg.pn,h2])
   simpa using this
  have hmp:ug a.name (.slice .shared 1 ((p.oo a.name).map encStr)) (lL p done)=some (lL p (done++ [a])):=by
   rw [FR Xd,FQ];rfl
  repeat' (first
 | simp only [go_sem,hF,hP,hY,hZ,hmp]
 | (with_reducible refine CU (U6 _) ?_)
 | (with_reducible refine aH hQ ?_;simp only [az,aA,Option.some.injEq,exists_eq_left',go_sem,hF,hP,hY,hZ];repeat' (first | exact Ok.out | with_reducible refine aE ?_ ?_ | (simp;done))))
  refine eo 3 0 ?_ ?_ (IH (rest,k+1,done++ [a]) ⟨g2,by rw [h2];simp⟩ (Nat.lt_succ_self _))
  ·(simp only [go_sem,hF,hP,hY,hZ,aM cb];try exact bU)
  ·(simp only [go_sem,hF,hP,hY,hZ,aM cb];try exact bU)
 | nil=>
  have hF:=drop_nil h1
  rw [List.append_nil]at h2
  subst h2
  repeat' (first
 | simp only [go_sem,hF,hP,hY,hZ,qe]
 | (with_reducible refine CU (dN _) ?_)
 | (with_reducible refine aH hQ ?_;simp only [az,aA,Option.some.injEq,exists_eq_left',go_sem,hF,hP,hY,hZ];repeat' (first | exact Ok.out | with_reducible refine aE ?_ ?_ | (simp;done))))
  refine cM 3 0 (bm.ind (ι:=List Im×Nat) (fun i=>p.eO.L.drop i.2=i.1∧pC 8 (M6 p (i.1.map Im.s))=R) (fun i=>i.1.length)
   (fun i=> [(1, .ptr 0 0),(2, .ptr 1 0),(3, .fW 2),(33, .slice .shared 17 (p.eO.L.map ez)),(34, .int .i64 (p.eO.L.length:Int)),(35, .int .i64 (i.2:Int))]) (fun i=>⟨[cj p,[.int .i64 0, .int .i64 0],lL p p.procs],[]⟩) ?_ (p.eO.L,0) ⟨rfl,hR⟩)
  clear hR
  rintro⟨rest,k⟩ ⟨h1,hR⟩ IH
  dsimp only at h1 hR
  cases rest with
  | nil=>
   have hF:=drop_nil h1
   simp only [List.map_nil,M6,pC]at hR
   subst hR
   repeat' (first
 | simp only [go_sem,hF,hP,hY,hZ]
 | (with_reducible refine aH hQ ?_;simp only [az,aA,Option.some.injEq,exists_eq_left',go_sem,hF,hP,hY,hZ];repeat' (first | exact Ok.out | with_reducible refine aE ?_ ?_ | (simp;done))))
  | cons a rest=>
   obtain⟨hP,g2,hF,g4⟩:=drop_cons h1
   have cb:k<4611686018427387904:=by omega
   have C6:a.s∈p.pre:=by rw [← hL];exact List.mem_map_of_mem (List.mem_of_getElem? hP)
   have Hc:=fun s=>Qm (Ki (h.pre _ C6)) (FU h a.s.proc) s
   simp only [List.map_cons,M6,Sm.HG]at hR
   rcases Bool.eq_false_or_eq_true (a.s.kind==4)with c1 | c1
   ·obtain⟨f,hf⟩:=M5 (jY _ C6 c1)
    have hmg:=fun z=>FT (p:=p) (z:=z) hf
    rcases Bool.eq_false_or_eq_true (nQ a.s.name (p.oo a.s.proc) [] a.s.args)with c2 | c2
    ·simp only [c1,c2,Bool.not_true,Bool.and_false,Bool.false_eq_true,if_false]at hR
     repeat' (first
 | simp only [go_sem,hF,hP,hY,hZ,c1,c2,hmg]
 | (with_reducible refine CU (Hc _) ?_)
 | (with_reducible refine aH hQ ?_;simp only [az,aA,Option.some.injEq,exists_eq_left',go_sem,hF,hP,hY,hZ];repeat' (first | exact Ok.out | with_reducible refine aE ?_ ?_ | (simp;done))))
     refine eo 3 0 ?_ ?_ (IH (rest,k+1) ⟨g2,hR⟩ (Nat.lt_succ_self _))
     ·(simp only [go_sem,hF,hP,hY,hZ,aM cb];try exact bU)
     ·(simp only [go_sem,hF,hP,hY,hZ,aM cb];try exact bU)
    ·simp only [c1,c2,Bool.not_false,Bool.and_true,if_true,pC]at hR
     subst hR
     repeat' (first
 | simp only [go_sem,hF,hP,hY,hZ,c1,c2,hmg]
 | (with_reducible refine CU (Hc _) ?_)
 | (with_reducible refine aH hQ ?_;simp only [az,aA,Option.some.injEq,exists_eq_left',go_sem,hF,hP,hY,hZ];repeat' (first | exact Ok.out | with_reducible refine aE ?_ ?_ | (simp;done))))
   ·simp only [c1,Bool.false_and,Bool.false_eq_true,if_false]at hR
    repeat' (first
 | simp only [go_sem,hF,hP,hY,hZ,c1]
 | (with_reducible refine CU (Hc _) ?_)
 | (with_reducible refine aH hQ ?_;simp only [az,aA,Option.some.injEq,exists_eq_left',go_sem,hF,hP,hY,hZ];repeat' (first | exact Ok.out | with_reducible refine aE ?_ ?_ | (simp;done))))
    refine eo 3 0 ?_ ?_ (IH (rest,k+1) ⟨g2,hR⟩ (Nat.lt_succ_self _))
    ·(simp only [go_sem,hF,hP,hY,hZ,aM cb];try exact bU)
    ·(simp only [go_sem,hF,hP,hY,hZ,aM cb];try exact bU)
end Go.Abs

/-! Al3 -/

namespace Go.Abs
set_option maxRecDepth 8000
open Go.Proofs
def Sm.XI (p:Pg) (v:Sm):Bool:=v.qx p && XH (p.oo v.proc) v.aiY v.args
def apF (p:Pg):List Sm→Option Sm
 | []=>none
 | v::l=>if v.kind==4 && !(v.XI p)then some v else apF p l
end Go.Abs

/-! Prs3 -/

namespace Go.Abs
set_option maxRecDepth 8000
open Go.Proofs
theorem Uw {n:Nat} {l:List aB} {fa:Int} {r:Rd} {p:List aB×Rd} (h:Rd.names n l fa r=some p) :
 aD Tryz.prog ib [.ptr 0 0, .slice (.tok 0) 1 (l.map encStr), .int .i64 fa] ⟨[bV r],[some l.length]⟩ (.slice (.tok 0) 1 (p.1.map encStr)) ⟨[bV p.2],[some p.1.length]⟩:=by
 refine aD.go uK rfl fun B Q hB hQ=> ?_
 have⟨hF,hP,hY,hZ⟩:=bt
 repeat' (first
 | simp only [go_sem,hF,hP,hY,hZ]
 | (with_reducible first | refine bB fun hc=> ?_ | refine bC fun hc=> ?_ | refine bD (fun hc=> ?_) fun hc=> ?_) <;> (try simp only [hc,bs, ↓reduceIte]at h) <;> try simp only [hc]
 | (with_reducible refine aH hQ ?_;simp only [az,aA,bx,bA,go_sem,hF,hP,hY,hZ];repeat' (first | exact Ok.out | with_reducible refine aE ?_ ?_ | (simp;done))))
 refine cM 1 1 (bm.ind (ι:=Nat×List aB×Rd×Nat) (fun i=>Rd.names i.1 i.2.1 fa i.2.2.1=some p∧i.2.2.2=i.2.1.length) (fun i=>i.1)
  (fun i=> [(0, .ptr 0 0),(1, .slice (.tok 0) 1 (i.2.1.map encStr)),(2, .int .i64 fa)]) (fun i=>⟨[bV i.2.2.1],[some i.2.2.2]⟩) ?_ (n,l,r,l.length) ⟨h,rfl⟩)
 rintro⟨n,l,r,k⟩ ⟨h,hk⟩ IH
 dsimp only at hk;subst hk
 cases n with
 | zero=>simp only [Rd.names]at h;cases h
 | succ n=>
  simp only [Rd.names]at h
  repeat' (first
 | simp only [go_sem,hF,hP,hY,hZ]
 | (rw [Option.bind_eq_some_iff]at h;obtain⟨_,h1,h⟩:=h;first | (with_reducible refine CU (vq h1 (by with_unfolding_all rfl)) ?_) | (obtain⟨hY,nR⟩:=nn h1;subst nR;simp only [go_sem,hF,hP,hY,hZ]) | (with_reducible refine CU (qS h1 (by with_unfolding_all rfl)) ?_) | (with_reducible refine CU (oj h1 (by with_unfolding_all rfl)) ?_))
 | (with_reducible refine CU (jw (by with_unfolding_all rfl)) ?_)
 | (with_reducible first | refine bB fun hc=> ?_ | refine bC fun hc=> ?_ | refine bD (fun hc=> ?_) fun hc=> ?_) <;> (try simp only [hc,bs, ↓reduceIte]at h) <;> try simp only [hc]
 | (with_reducible refine aH hQ ?_;(try cases h);simp only [az,aA,bx,bA,go_sem,hF,hP,hY,hZ];repeat' (first | exact Ok.out | with_reducible refine aE ?_ ?_ | (simp;done))))
  refine cM 1 1 (IH (n,_,_,l.length+1) ⟨h,by simp⟩ (Nat.lt_succ_self _))
theorem HH {n:Nat} {l:List aB} {fa:Int} {r:Rd} {p:List aB×Rd} (h:Rd.names n l fa r=some p) {s:St} {o t:Nat} (ho:s.aw[o]? = some (bV r)) (ht:s.aC[t]? = some (some l.length)) :
 aD Tryz.prog ib [.ptr o 0, .slice (.tok t) 1 (l.map encStr), .int .i64 fa] s (.slice (.tok t) 1 (p.1.map encStr)) ⟨s.aw.set o (bV p.2),s.aC.set t (some p.1.length)⟩:=
 (Uw h).Ze rfl (fk r) (fk p.2) (eH l) (eH p.1) ho ht
theorem FV {n:Nat} {r:Rd} {p:List aB×Rd} (h:Rd.labels n [] r=some p) {s:St} {o:Nat} (ho:s.aw[o]? = some (bV r)) :
 aD Tryz.prog lC [.ptr o 0] s (.slice .shared 1 (p.1.map encStr)) ⟨s.aw.set o (bV p.2),s.aC⟩:=by
 refine aD.jl ?_ rfl (fk r) (fk p.2) (by simp [D.ok,eH,Tag.ok]) ho
 refine aD.go s4 rfl fun B Q hB hQ=> ?_
 have⟨hF,hP,hY,hZ⟩:=bt
 repeat' (first
 | simp only [go_sem,hF,hP,hY,hZ]
 | (with_reducible first | refine bB fun hc=> ?_ | refine bC fun hc=> ?_ | refine bD (fun hc=> ?_) fun hc=> ?_) <;> (try simp only [hc,bs, ↓reduceIte]at h) <;> try simp only [hc]
 | (with_reducible refine aH hQ ?_;simp only [az,aA,bx,bA,go_sem,hF,hP,hY,hZ];repeat' (first | exact Ok.out | with_reducible refine aE ?_ ?_ | (simp;done))))
 refine bm.oD 3 1 rfl ?_
 simp only [go_sem,hF,hP,hY,hZ]
 refine cM 1 1 (bm.ind (ι:=Nat×List aB×Rd×Nat) (fun i=>Rd.labels i.1 i.2.1 i.2.2.1=some p∧i.2.2.2=i.2.1.length) (fun i=>i.1)
  (fun i=> [(0, .ptr 0 0),(3, .slice (.tok 0) 1 (i.2.1.map encStr))]) (fun i=>⟨[bV i.2.2.1],[some i.2.2.2]⟩) ?_ (n,[],r,0) ⟨h,rfl⟩)
 rintro⟨n,l,r,k⟩ ⟨h,hk⟩ IH
 dsimp only at hk;subst hk
 cases n with
 | zero=>simp only [Rd.labels]at h;cases h
 | succ n=>
  simp only [Rd.labels,Rd.ahead]at h
  repeat' (first
 | simp only [go_sem,hF,hP,hY,hZ]
 | (rw [Option.bind_eq_some_iff]at h;obtain⟨_,h1,h⟩:=h;first | (with_reducible refine CU (nA h1 (by with_unfolding_all rfl)) ?_;have hF:=qc h1) | (obtain⟨hY,nR⟩:=nn h1;subst nR;simp only [go_sem,hF,hP,hY,hZ]) | (obtain⟨Kg,hP⟩:=xF h1;simp only [go_sem,hP,hF,hP,hY,hZ]))
 | (with_reducible refine CU (jw (by with_unfolding_all rfl)) ?_)
 | (with_reducible first | refine bB fun hc=> ?_ | refine bC fun hc=> ?_ | refine bD (fun hc=> ?_) fun hc=> ?_) <;> (try simp only [hc,bs, ↓reduceIte]at h) <;> try simp only [hc]
 | (with_reducible refine aH hQ ?_;(try cases h);simp only [az,aA,bx,bA,go_sem,hF,hP,hY,hZ];repeat' (first | exact Ok.out | with_reducible refine aE ?_ ?_ | (simp;done))))
  refine cM 1 1 (IH (n,_,_,l.length+1) ⟨h,by simp⟩ (Nat.lt_succ_self _))
end Go.Abs

/-! Prs4 -/

namespace Go.Abs
set_option maxRecDepth 8000
open Go.Proofs
theorem Qo {r:Rd} {b:Bool} (h:r.E8=some b) {s:St} {o:Nat} (ho:s.aw[o]? = some (bV r)) :
 aD Tryz.prog lD [.ptr o 0] s (.bool b) ⟨s.aw.set o (bV r),s.aC⟩:=by
 refine aD.jl ?_ rfl (fk r) (fk r) rfl ho
 unfold Rd.E8 at h
 refine aD.go s5 rfl fun B Q hB hQ=> ?_
 have⟨hF,hP,hY,hZ⟩:=bt
 repeat' (first
 | simp only [go_sem,hF,hP,hY,hZ]
 | (rw [Option.bind_eq_some_iff]at h;obtain⟨_,h1,h⟩:=h;first | (with_reducible refine CU (nA h1 (by with_unfolding_all rfl)) ?_))
 | (with_reducible first | refine bB fun hc=> ?_ | refine bC fun hc=> ?_ | refine bD (fun hc=> ?_) fun hc=> ?_) <;> (try simp only [hc,bs, ↓reduceIte]at h) <;> try simp only [hc]
 | (with_reducible refine aH hQ ?_;(try cases h);simp only [az,aA,bx,bA,go_sem,hF,hP,hY,hZ];repeat' (first | exact Ok.out | with_reducible refine aE ?_ ?_ | (simp;done))))
theorem XJ {m:Nat} {name proc:aB} {r:Rd} {p:Sm×Rd} (h:Rd.call m name proc r=some p) {s:St} {o:Nat} (ho:s.aw[o]? = some (bV r)) :
 aD Tryz.prog ki [.ptr o 0, .str name, .str proc] s (.agg (bc p.1)) ⟨s.aw.set o (bV p.2),s.aC⟩:=by
 refine aD.jl ?_ rfl (fk r) (fk p.2) (by simp [D.ok,mE]) ho
 unfold Rd.call Rd.other at h
 refine aD.go vi rfl fun B Q hB hQ=> ?_
 have⟨hF,hP,hY,hZ⟩:=bt
 repeat' (first
 | simp only [go_sem,hF,hP,hY,hZ]
 | (rw [Option.bind_eq_some_iff]at h;obtain⟨_,h1,h⟩:=h;first | (with_reducible refine CU (oj h1 (by with_unfolding_all rfl)) ?_) | (with_reducible refine CU (xP h1 (by with_unfolding_all rfl)) ?_))
 | (with_reducible refine CU (jw (by with_unfolding_all rfl)) ?_)
 | (with_reducible first | refine bB fun hc=> ?_ | refine bC fun hc=> ?_ | refine bD (fun hc=> ?_) fun hc=> ?_) <;> (try simp only [hc,bs, ↓reduceIte]at h) <;> try simp only [hc]
 | (with_reducible refine aH hQ ?_;exact pQ)
 | (cases h;replace h:=hr;clear hr;(try simp only [bs, ↓reduceIte]at h))
 | (cases h;done))
 rw [Option.bind_eq_some_iff]at h
 obtain⟨q,h,hr⟩:=h
 refine bm.sw 2 10 6 rfl rfl ?_
 simp only [go_sem,hF,hP,hY,hZ]
 refine cM 3 1 (bm.ind (ι:=Nat×List Ar×Rd×Nat) (fun i=>Rd.vS m i.1 i.2.1 i.2.2.1=some q∧i.2.2.2=i.2.1.length) (fun i=>i.1)
  (fun i=> [(0, .ptr 0 0),(6, .ptr 1 0),(7, .ptr 2 0)]) (fun i=>⟨[bV i.2.2.1,bc E1,[.int .i64 0, .int .i64 4, .slice .shared 1 [], .str name, .str proc, .int .i64 0, .int .i64 0, .str [], .slice .shared 4 [], .bool false, .slice (.tok 0) 6 (i.2.1.map dO), .slice .shared 13 [], .slice .shared 13 []]],[some i.2.2.2]⟩) ?_ (m,[],_,0) ⟨h,rfl⟩)
 rintro⟨n,l,r,k⟩ ⟨h,hk⟩ IH
 dsimp only at hk;subst hk
 cases n with
 | zero=>simp only [Rd.vS]at h;cases h
 | succ n=>
  simp only [Rd.vS]at h
  repeat' (first
 | simp only [go_sem,hF,hP,hY,hZ]
 | (rw [Option.bind_eq_some_iff]at h;obtain⟨_,h1,h⟩:=h;first | (with_reducible refine CU (qS h1 (by with_unfolding_all rfl)) ?_) | (obtain⟨hY,nR⟩:=nn h1;subst nR;simp only [go_sem,hF,hP,hY,hZ]) | (with_reducible refine CU (vq h1 (by with_unfolding_all rfl)) ?_) | (with_reducible refine CU (yo h1 (by with_unfolding_all rfl)) ?_) | (with_reducible refine CU (oj h1 (by with_unfolding_all rfl)) ?_))
 | (with_reducible refine CU (jw (by with_unfolding_all rfl)) ?_)
 | (with_reducible first | refine bB fun hc=> ?_ | refine bC fun hc=> ?_ | refine bD (fun hc=> ?_) fun hc=> ?_) <;> (try simp only [hc,bs, ↓reduceIte]at h) <;> try simp only [hc]
 | (with_reducible refine aH hQ ?_;exact pQ)
 | (cases h;replace h:=hr;clear hr;(try simp only [bs, ↓reduceIte]at h))
 | (cases h;done))
  ·refine cM 3 1 (IH (n,_,_,l.length+1) ⟨h,by simp⟩ (Nat.lt_succ_self _))
  ·refine cM 3 1 (IH (n,_,_,l.length+1) ⟨h,by simp⟩ (Nat.lt_succ_self _))
theorem Qp {m:Nat} {r:Rd} {p:Sm×Rd} (h:Rd.named m r=some p) {s:St} {o:Nat} (ho:s.aw[o]? = some (bV r)) :
 aD Tryz.prog l7 [.ptr o 0] s (.agg (bc p.1)) ⟨s.aw.set o (bV p.2),s.aC⟩:=by
 refine aD.jl ?_ rfl (fk r) (fk p.2) (by simp [D.ok,mE]) ho
 unfold Rd.named Rd.ahead at h
 refine aD.go uG rfl fun B Q hB hQ=> ?_
 have⟨hF,hP,hY,hZ⟩:=bt
 repeat' (first
 | simp only [go_sem,hF,hP,hY,hZ]
 | (rw [Option.bind_eq_some_iff]at h;obtain⟨_,h1,h⟩:=h;first | (with_reducible refine CU (vq h1 (by with_unfolding_all rfl)) ?_) | (with_reducible refine CU (oj h1 (by with_unfolding_all rfl)) ?_) | (with_reducible refine CU (xP h1 (by with_unfolding_all rfl)) ?_) | (with_reducible refine CU (nA h1 (by with_unfolding_all rfl)) ?_;have hF:=qc h1) | (obtain⟨Kg,hP⟩:=xF h1;simp only [go_sem,hP,hF,hP,hY,hZ]) | (with_reducible refine CU (yo h1 (by with_unfolding_all rfl)) ?_))
 | (with_reducible refine CU (jw (by with_unfolding_all rfl)) ?_)
 | (with_reducible refine CU (XJ h (by with_unfolding_all rfl)) ?_)
 | (with_reducible first | refine bB fun hc=> ?_ | refine bC fun hc=> ?_ | refine bD (fun hc=> ?_) fun hc=> ?_) <;> (try simp only [hc,bs, ↓reduceIte]at h) <;> try simp only [hc]
 | (with_reducible refine aH hQ ?_;(try cases h);simp only [az,aA,bx,bA,go_sem,hF,hP,hY,hZ];repeat' (first | exact Ok.out | with_reducible refine aE ?_ ?_ | (simp;done))))
theorem Ux {m:Nat} {word:aB} {r:Rd} {p:Sm×Rd} (h:Rd.plain m word r=some p) {s:St} {o:Nat} (ho:s.aw[o]? = some (bV r)) :
 aD Tryz.prog l8 [.ptr o 0, .str word] s (.agg (bc p.1)) ⟨s.aw.set o (bV p.2),s.aC⟩:=by
 refine aD.jl ?_ rfl (fk r) (fk p.2) (by simp [D.ok,mE]) ho
 unfold Rd.plain at h
 refine aD.go uI rfl fun B Q hB hQ=> ?_
 have⟨hF,hP,hY,hZ⟩:=bt
 repeat' (first
 | simp only [go_sem,hF,hP,hY,hZ]
 | (rw [Option.bind_eq_some_iff]at h;obtain⟨_,h1,h⟩:=h;first | (with_reducible refine CU (vq h1 (by with_unfolding_all rfl)) ?_) | (with_reducible refine CU (xP h1 (by with_unfolding_all rfl)) ?_) | (with_reducible refine CU (yo h1 (by with_unfolding_all rfl)) ?_))
 | (with_reducible first | refine bB fun hc=> ?_ | refine bC fun hc=> ?_ | refine bD (fun hc=> ?_) fun hc=> ?_) <;> (try simp only [hc,bs, ↓reduceIte]at h) <;> try simp only [hc]
 | (with_reducible refine aH hQ ?_;(try cases h);simp only [az,aA,bx,bA,go_sem,hF,hP,hY,hZ];repeat' (first | exact Ok.out | with_reducible refine aE ?_ ?_ | (simp;done))))
theorem M7 {m:Nat} {r:Rd} {p:Ex×Rd} (h:Rd.head m r=some p) {s:St} {o:Nat} (ho:s.aw[o]? = some (bV r)) :
 aD Tryz.prog kh [.ptr o 0] s (.agg (bp p.1)) ⟨s.aw.set o (bV p.2),s.aC⟩:=by
 refine aD.jl ?_ rfl (fk r) (fk p.2) (by simp [D.ok,gw]) ho
 unfold Rd.head at h
 refine aD.go vh rfl fun B Q hB hQ=> ?_
 have⟨hF,hP,hY,hZ⟩:=bt
 repeat' (first
 | simp only [go_sem,hF,hP,hY,hZ]
 | (rw [Option.bind_eq_some_iff]at h;obtain⟨_,h1,h⟩:=h;first | (with_reducible refine CU (oj h1 (by with_unfolding_all rfl)) ?_) | (with_reducible refine CU (yo h1 (by with_unfolding_all rfl)) ?_))
 | (with_reducible first | refine bB fun hc=> ?_ | refine bC fun hc=> ?_ | refine bD (fun hc=> ?_) fun hc=> ?_) <;> (try simp only [hc,bs, ↓reduceIte]at h) <;> try simp only [hc]
 | (with_reducible refine aH hQ ?_;(try cases h);simp only [az,aA,bx,bA,go_sem,hF,hP,hY,hZ];repeat' (first | exact Ok.out | with_reducible refine aE ?_ ?_ | (simp;done))))
end Go.Abs

/-! Prs5 -/

namespace Go.Abs
set_option maxRecDepth 8000
open Go.Proofs
abbrev FW (m n:Nat):Prop:=∀ {nest:Int} {body:Bool} {r:Rd} {p:(List Sm×List aB)×Rd},Rd.rows m n nest body r=some p→∀ {s:St} {o:Nat},s.aw[o]? = some (bV r)→
 aD Tryz.prog fO [.ptr o 0, .int .i64 nest, .bool body] s (.tuple [.slice .shared 13 (p.1.1.map bc), .slice .shared 1 (p.1.2.map encStr)]) ⟨s.aw.set o (bV p.2),s.aC⟩
abbrev x9 (m n:Nat):Prop:=∀ {nest:Int} {r:Rd} {p:Sm×Rd},Rd.stmt m n nest r=some p→∀ {s:St} {o:Nat},s.aw[o]? = some (bV r)→
 aD Tryz.prog mH [.ptr o 0, .int .i64 nest] s (.agg (bc p.1)) ⟨s.aw.set o (bV p.2),s.aC⟩
abbrev yx (m n:Nat):Prop:=∀ {nest:Int} {r:Rd} {p:List Sm×Rd},Rd.block m n nest r=some p→∀ {s:St} {o:Nat},s.aw[o]? = some (bV r)→
 aD Tryz.prog ic [.ptr o 0, .int .i64 nest] s (.slice .shared 13 (p.1.map bc)) ⟨s.aw.set o (bV p.2),s.aC⟩
abbrev zP (m n:Nat):Prop:=∀ {nest:Int} {r:Rd} {p:Sm×Rd},Rd.choice m n nest r=some p→∀ {s:St} {o:Nat},s.aw[o]? = some (bV r)→
 aD Tryz.prog lE [.ptr o 0, .int .i64 nest] s (.agg (bc p.1)) ⟨s.aw.set o (bV p.2),s.aC⟩
theorem G5 {m n:Nat} (Cl:yx m n):zP m (n+1):=by
 intro nest r p h s o ho
 refine aD.jl ?_ rfl (fk r) (fk p.2) (by simp [D.ok,mE]) ho
 unfold Rd.choice at h
 refine aD.go s6 rfl fun B Q hB hQ=> ?_
 have⟨hF,hP,hY,hZ⟩:=bt
 repeat' (first
 | simp only [go_sem,hF,hP,hY,hZ]
 | (rw [Option.bind_eq_some_iff]at h;obtain⟨_,h1,h⟩:=h;first | (with_reducible refine CU (M7 h1 (by with_unfolding_all rfl)) ?_) | (with_reducible refine CU (Cl h1 (by with_unfolding_all rfl)) ?_) | (with_reducible refine CU (qS h1 (by with_unfolding_all rfl)) ?_))
 | (with_reducible first | refine bB fun hc=> ?_ | refine bC fun hc=> ?_ | refine bD (fun hc=> ?_) fun hc=> ?_) <;> (try simp only [hc,bs, ↓reduceIte]at h) <;> try simp only [hc]
 | (with_reducible refine aH hQ ?_;(try cases h);simp only [az,aA,bx,bA,go_sem,hF,hP,hY,hZ];repeat' (first | exact Ok.out | with_reducible refine aE ?_ ?_ | (simp;done))))
theorem Kj {m n:Nat} (FX:FW m n):yx m (n+1):=by
 intro nest r p h s o ho
 refine aD.jl ?_ rfl (fk r) (fk p.2) (by simp [D.ok,mR,Tag.ok]) ho
 unfold Rd.block at h
 refine aD.go uH rfl fun B Q hB hQ=> ?_
 have⟨hF,hP,hY,hZ⟩:=bt
 repeat' (first
 | simp only [go_sem,hF,hP,hY,hZ]
 | (rw [Option.bind_eq_some_iff]at h;obtain⟨_,h1,h⟩:=h;first | (with_reducible refine CU (oj h1 (by with_unfolding_all rfl)) ?_) | (obtain⟨hZ,XK⟩:=L6 h1;subst XK;simp only [go_sem,hZ,hF,hP,hY,hZ]) | (with_reducible refine CU (FX h1 (by with_unfolding_all rfl)) ?_))
 | (with_reducible first | refine bB fun hc=> ?_ | refine bC fun hc=> ?_ | refine bD (fun hc=> ?_) fun hc=> ?_) <;> (try simp only [hc,bs, ↓reduceIte]at h) <;> try simp only [hc]
 | (with_reducible refine aH hQ ?_;(try cases h);simp only [az,aA,bx,bA,go_sem,hF,hP,hY,hZ];repeat' (first | exact Ok.out | with_reducible refine aE ?_ ?_ | (simp;done))))
theorem M8 {m n:Nat} (Cl:yx m n) (Qq:zP m n):x9 m (n+1):=by
 intro nest r p h s o ho
 refine aD.jl ?_ rfl (fk r) (fk p.2) (by simp [D.ok,mE]) ho
 unfold Rd.stmt at h
 refine aD.go vg rfl fun B Q hB hQ=> ?_
 have⟨hF,hP,hY,hZ⟩:=bt
 repeat' (first
 | simp only [go_sem,hF,hP,hY,hZ]
 | (rw [Option.bind_eq_some_iff]at h;obtain⟨_,h1,h⟩:=h;first | (with_reducible refine CU (Qo h1 (by with_unfolding_all rfl)) ?_) | (obtain⟨hZ,XK⟩:=Pn h1;subst XK;simp only [go_sem,hZ,hF,hP,hY,hZ]) | (with_reducible refine CU (nA h1 (by with_unfolding_all rfl)) ?_;have hF:=qc h1) | (with_reducible refine CU (M7 h1 (by with_unfolding_all rfl)) ?_) | (with_reducible refine CU (Cl h1 (by with_unfolding_all rfl)) ?_) | (with_reducible refine CU (Ux h1 (by with_unfolding_all rfl)) ?_) | (with_reducible refine CU (oj h1 (by with_unfolding_all rfl)) ?_) | (with_reducible refine CU (AR h1 (by with_unfolding_all rfl)) ?_))
 | (with_reducible refine CU (Qq h (by with_unfolding_all rfl)) ?_)
 | (with_reducible refine CU (Qp h (by with_unfolding_all rfl)) ?_)
 | (with_reducible first | refine bB fun hc=> ?_ | refine bC fun hc=> ?_ | refine bD (fun hc=> ?_) fun hc=> ?_) <;> (try simp only [hc,bs, ↓reduceIte]at h) <;> try simp only [hc]
 | (with_reducible refine aH hQ ?_;(try cases h);simp only [az,aA,bx,bA,go_sem,hF,hP,hY,hZ];repeat' (first | exact Ok.out | with_reducible refine aE ?_ ?_ | (simp;done))))
theorem M9 {m n:Nat} (vE : ∀ j<n,x9 m j) {nest:Int} {r:Rd} {p:(List Sm×List aB)×Rd} (h:Rd.rows m (n+1) nest true r=some p) :
 aD Tryz.prog fO [.ptr 0 0, .int .i64 nest, .bool true] ⟨[bV r],[]⟩ (.tuple [.slice .shared 13 (p.1.1.map bc), .slice .shared 1 (p.1.2.map encStr)]) ⟨[bV p.2],[]⟩:=by
 unfold Rd.rows at h
 refine aD.go oN rfl fun B Q hB hQ=> ?_
 have⟨hF,hP,hY,hZ⟩:=bt
 repeat' (first
 | simp only [go_sem,hF,hP,hY,hZ]
 | (with_reducible first | refine bB fun hc=> ?_ | refine bC fun hc=> ?_ | refine bD (fun hc=> ?_) fun hc=> ?_) <;> (try simp only [hc,bs, ↓reduceIte]at h) <;> try simp only [hc]
 | (with_reducible refine aH hQ ?_;simp only [az,aA,bx,bA,go_sem,hF,hP,hY,hZ];repeat' (first | exact Ok.out | with_reducible refine aE ?_ ?_ | (simp;done))))
 refine bm.oD 8 13 rfl ?_
 simp only [go_sem,hF,hP,hY,hZ]
 refine cM 1 1 (bm.ind (ι:=Nat×List Sm×Rd×Nat) (fun i=>Rd.rM m i.1 nest true i.2.1 i.2.2.1=some p∧i.2.2.2=i.2.1.length∧i.1≤n) (fun i=>i.1)
  (fun i=> [(0, .ptr 0 0),(1, .int .i64 nest),(2, .bool true),(8, .slice (.tok 0) 13 (i.2.1.map bc))]) (fun i=>⟨[bV i.2.2.1],[some i.2.2.2]⟩) ?_ (n,[],r,0) ⟨h,rfl,Nat.le_refl _⟩)
 rintro⟨j,l,r,k⟩ ⟨h,hk,hj⟩ IH
 dsimp only at hk hj;subst hk
 cases j with
 | zero=>simp only [Rd.rM]at h;cases h
 | succ j=>
  have FY:=@vE j (by omega)
  simp only [Rd.rM]at h
  repeat' (first
 | simp only [go_sem,hF,hP,hY,hZ,di]
 | (rw [Option.bind_eq_some_iff]at h;obtain⟨_,h1,h⟩:=h;first | (with_reducible refine CU (FV h1 (by with_unfolding_all rfl)) ?_) | (with_reducible refine CU (xP h1 (by with_unfolding_all rfl)) ?_;have hF:=is_lt h1) | (obtain⟨hY,nR⟩:=nn h1;subst nR;simp only [go_sem,hF,hP,hY,hZ]) | (with_reducible refine CU (FY h1 (by with_unfolding_all rfl)) ?_))
 | (with_reducible refine CU (jw (by with_unfolding_all rfl)) ?_)
 | (with_reducible first | refine bB fun hc=> ?_ | refine bC fun hc=> ?_ | refine bD (fun hc=> ?_) fun hc=> ?_) <;> (try simp only [hc,bs, ↓reduceIte]at h) <;> try simp only [hc]
 | (with_reducible refine aH hQ ?_;(try cases h);simp only [az,aA,bx,bA,go_sem,hF,hP,hY,hZ,di];repeat' (first | exact Ok.out | with_reducible refine aE ?_ ?_ | (simp;done))))
  ·refine eo 1 1 ?_ ?_ (IH (j,_,_,l.length+1) ⟨h,by simp,by dsimp only;omega⟩ (Nat.lt_succ_self _))
   ·(simp only [go_sem,hF,hP,hY,hZ,di];try exact bU)
   ·(simp only [go_sem,hF,hP,hY,hZ,di];try exact bU)
theorem Kk {m n:Nat} (vE : ∀ j<n,x9 m j) {nest:Int} {r:Rd} {p:(List Sm×List aB)×Rd} (h:Rd.rows m (n+1) nest false r=some p) :
 aD Tryz.prog fO [.ptr 0 0, .int .i64 nest, .bool false] ⟨[bV r],[]⟩ (.tuple [.slice .shared 13 (p.1.1.map bc), .slice .shared 1 (p.1.2.map encStr)]) ⟨[bV p.2],[]⟩:=by
 unfold Rd.rows at h
 refine aD.go oN rfl fun B Q hB hQ=> ?_
 have⟨hF,hP,hY,hZ⟩:=bt
 repeat' (first
 | simp only [go_sem,hF,hP,hY,hZ]
 | (with_reducible first | refine bB fun hc=> ?_ | refine bC fun hc=> ?_ | refine bD (fun hc=> ?_) fun hc=> ?_) <;> (try simp only [hc,bs, ↓reduceIte]at h) <;> try simp only [hc]
 | (with_reducible refine aH hQ ?_;simp only [az,aA,bx,bA,go_sem,hF,hP,hY,hZ];repeat' (first | exact Ok.out | with_reducible refine aE ?_ ?_ | (simp;done))))
 refine bm.oD 8 13 rfl ?_
 simp only [go_sem,hF,hP,hY,hZ]
 refine cM 1 1 (bm.ind (ι:=Nat×List Sm×Rd×Nat) (fun i=>Rd.rM m i.1 nest false i.2.1 i.2.2.1=some p∧i.2.2.2=i.2.1.length∧i.1≤n) (fun i=>i.1)
  (fun i=> [(0, .ptr 0 0),(1, .int .i64 nest),(2, .bool false),(8, .slice (.tok 0) 13 (i.2.1.map bc))]) (fun i=>⟨[bV i.2.2.1],[some i.2.2.2]⟩) ?_ (n,[],r,0) ⟨h,rfl,Nat.le_refl _⟩)
 rintro⟨j,l,r,k⟩ ⟨h,hk,hj⟩ IH
 dsimp only at hk hj;subst hk
 cases j with
 | zero=>simp only [Rd.rM]at h;cases h
 | succ j=>
  have FY:=@vE j (by omega)
  simp only [Rd.rM]at h
  repeat' (first
 | simp only [go_sem,hF,hP,hY,hZ,di]
 | (rw [Option.bind_eq_some_iff]at h;obtain⟨_,h1,h⟩:=h;first | (with_reducible refine CU (FV h1 (by with_unfolding_all rfl)) ?_) | (with_reducible refine CU (xP h1 (by with_unfolding_all rfl)) ?_;have hF:=is_lt h1) | (obtain⟨hY,nR⟩:=nn h1;subst nR;simp only [go_sem,hF,hP,hY,hZ]) | (with_reducible refine CU (FY h1 (by with_unfolding_all rfl)) ?_))
 | (with_reducible refine CU (jw (by with_unfolding_all rfl)) ?_)
 | (with_reducible first | refine bB fun hc=> ?_ | refine bC fun hc=> ?_ | refine bD (fun hc=> ?_) fun hc=> ?_) <;> (try simp only [hc,bs, ↓reduceIte]at h) <;> try simp only [hc]
 | (with_reducible refine aH hQ ?_;(try cases h);simp only [az,aA,bx,bA,go_sem,hF,hP,hY,hZ,di];repeat' (first | exact Ok.out | with_reducible refine aE ?_ ?_ | (simp;done))))
  ·refine eo 1 1 ?_ ?_ (IH (j,_,_,l.length+1) ⟨h,by simp,by dsimp only;omega⟩ (Nat.lt_succ_self _))
   ·(simp only [go_sem,hF,hP,hY,hZ,di];try exact bU)
   ·(simp only [go_sem,hF,hP,hY,hZ,di];try exact bU)
  ·refine eo 1 1 ?_ ?_ (IH (j,_,_,l.length+1) ⟨h,by simp,by dsimp only;omega⟩ (Nat.lt_succ_self _))
   ·(simp only [go_sem,hF,hP,hY,hZ,di];try exact bU)
   ·(simp only [go_sem,hF,hP,hY,hZ,di];try exact bU)
theorem Na {m n:Nat} (vE : ∀ j<n,x9 m j):FW m (n+1):=by
 intro nest body r p h s o ho
 refine aD.jl ?_ rfl (fk r) (fk p.2) (by simp [D.ok,D.bH,mR,eH,Tag.ok]) ho
 cases body
 ·exact Kk vE h
 ·exact M9 vE h
theorem XL (m:Nat) : ∀ n,∀ k<n,FW m k∧x9 m k∧yx m k∧zP m k:=by
 intro n
 induction n with
 | zero=>intro k h;exact absurd h (Nat.not_lt_zero _)
 | succ n ih=>
  intro k hk
  cases k with
  | zero=>
   refine⟨?_, ?_, ?_, ?_⟩
   ·intro nest body r p h;simp only [Rd.rows]at h;cases h
   ·intro nest r p h;simp only [Rd.stmt]at h;cases h
   ·intro nest r p h;simp only [Rd.block]at h;cases h
   ·intro nest r p h;simp only [Rd.choice]at h;cases h
  | succ k=>
   obtain⟨h1,h2,h3,h4⟩:=ih k (by omega)
   exact⟨Na fun j hj=>(ih j (by omega)).2.1,M8 h3 h4,Kj h1,G5 h3⟩
theorem FX {m n:Nat} {nest:Int} {body:Bool} {r:Rd} {p:(List Sm×List aB)×Rd} (h:Rd.rows m n nest body r=some p) {s:St} {o:Nat} (ho:s.aw[o]? = some (bV r)) :
 aD Tryz.prog fO [.ptr o 0, .int .i64 nest, .bool body] s (.tuple [.slice .shared 13 (p.1.1.map bc), .slice .shared 1 (p.1.2.map encStr)]) ⟨s.aw.set o (bV p.2),s.aC⟩:=
 (XL m (n+1) n (Nat.lt_succ_self _)).1 h ho
end Go.Abs

/-! Prs6 -/

namespace Go.Abs
set_option maxRecDepth 8000
open Go.Proofs
theorem ub {m:Nat} {B:e9} {Q:Exit→Tm→St→Prop} {row:List D} {name:aB} {p:Pc×Rd} (hB:B.s = ⟨[row],[]⟩) (hQ:gS 1 0 [(2,some (true,5))] (.agg (cz p.1)) ⟨[bV p.2],[]⟩=Q)
 (ps:List Pm) (r:Rd) (h:Rd.vT m name ps r=some p) :
 bm Tryz.prog B 56 WE (jj 2 (lj (gi Tryz.prog B 56 WG Q) Q)) [(0, .ptr 0 0),(2, .ptr 1 0),(3, .ptr 2 0)]
  ⟨[bV r,[.str [], .slice .full 0 [], .slice .full 0 [], .slice .full 0 [], .slice .full 0 []],[.str name, .slice .shared 2 (ps.map fD), .slice .full 0 [], .slice .full 0 [], .slice .full 0 []]],[]⟩:=by
 have⟨hF,hP,hY,hZ⟩:=bt
 unfold Rd.vT at h
 rw [Option.bind_eq_some_iff]at h
 obtain⟨q,h,hr⟩:=h
 refine bm.sw 2 2 1 rfl rfl ?_
 simp only [go_sem,hF,hP,hY,hZ]
 refine cM 3 1 (bm.ind (ι:=Nat×List aB×Rd×Nat) (fun i=>Rd.vars m i.1 i.2.1 i.2.2.1=some q∧i.2.2.2=i.2.1.length) (fun i=>i.1)
  (fun i=> [(0, .ptr 0 0),(2, .ptr 1 0),(3, .ptr 2 0)]) (fun i=>⟨[bV i.2.2.1,[.str [], .slice .full 0 [], .slice .full 0 [], .slice .full 0 [], .slice .full 0 []],[.str name, .slice .shared 2 (ps.map fD), .slice (.tok 0) 1 (i.2.1.map encStr), .slice .full 0 [], .slice .full 0 []]],[some i.2.2.2]⟩) ?_ (m,[],r,0) ⟨h,rfl⟩)
 rintro⟨n,l,r,k⟩ ⟨h,hk⟩ IH
 dsimp only at hk;subst hk
 cases n with
 | zero=>simp only [Rd.vars]at h;cases h
 | succ n=>
  simp only [Rd.vars]at h
  repeat' (first
 | simp only [go_sem,hF,hP,hY,hZ]
 | (rw [Option.bind_eq_some_iff]at h;obtain⟨_,h1,h⟩:=h;first | (with_reducible refine CU (qS h1 (by with_unfolding_all rfl)) ?_) | (with_reducible refine CU (HH h1 (by with_unfolding_all rfl) (by with_unfolding_all rfl)) ?_) | (with_reducible refine CU (FX h1 (by with_unfolding_all rfl)) ?_))
 | (with_reducible first | refine bB fun hc=> ?_ | refine bC fun hc=> ?_ | refine bD (fun hc=> ?_) fun hc=> ?_) <;> (try simp only [hc,bs, ↓reduceIte]at h) <;> try simp only [hc]
 | (with_reducible refine aH hQ ?_;exact pQ)
 | (cases h;replace h:=hr;clear hr;(try simp only [bs, ↓reduceIte]at h))
 | (cases h;done))
  refine cM 3 1 (IH (n,_,_,_) ⟨h,rfl⟩ (Nat.lt_succ_self _))
theorem XM {m:Nat} {r:Rd} {p:Pc×Rd} (h:Rd.proc m r=some p) {s:St} {o:Nat} (ho:s.aw[o]? = some (bV r)) :
 aD Tryz.prog mF [.ptr o 0] s (.agg (cz p.1)) ⟨s.aw.set o (bV p.2),s.aC⟩:=by
 refine aD.jl ?_ rfl (fk r) (fk p.2) (by simp [D.ok,xE]) ho
 unfold Rd.proc Rd.other at h
 refine aD.go vm rfl fun B Q hB hQ=> ?_
 have⟨hF,hP,hY,hZ⟩:=bt
 repeat' (first
 | simp only [go_sem,hF,hP,hY,hZ]
 | (rw [Option.bind_eq_some_iff]at h;obtain⟨_,h1,h⟩:=h;first | (with_reducible refine CU (oj h1 (by with_unfolding_all rfl)) ?_) | (with_reducible refine CU (xP h1 (by with_unfolding_all rfl)) ?_) | (with_reducible refine CU (vq h1 (by with_unfolding_all rfl)) ?_))
 | (with_reducible refine CU (jw (by with_unfolding_all rfl)) ?_)
 | (with_reducible first | refine bB fun hc=> ?_ | refine bC fun hc=> ?_ | refine bD (fun hc=> ?_) fun hc=> ?_) <;> (try simp only [hc,bs, ↓reduceIte]at h) <;> try simp only [hc]
 | (with_reducible refine aH hQ ?_;simp only [az,aA,bx,bA,go_sem,hF,hP,hY,hZ];repeat' (first | exact Ok.out | with_reducible refine aE ?_ ?_ | (simp;done))))
 ·refine cM 3 0 (ub hB hQ [] _ h)
 ·rename_i nm _ _ _ _ _
  rw [Option.bind_eq_some_iff]at h
  obtain⟨q,h,hr⟩:=h
  refine bm.sw 2 1 2 rfl rfl ?_
  simp only [go_sem,hF,hP,hY,hZ]
  refine cM 3 1 (bm.ind (ι:=Nat×List Pm×Rd×Nat) (fun i=>Rd.params i.1 i.2.1 i.2.2.1=some q∧i.2.2.2=i.2.1.length) (fun i=>i.1)
   (fun i=> [(0, .ptr 0 0),(2, .ptr 1 0),(3, .ptr 2 0)]) (fun i=>⟨[bV i.2.2.1,[.str [], .slice .full 0 [], .slice .full 0 [], .slice .full 0 [], .slice .full 0 []],[.str nm.1, .slice (.tok 0) 2 (i.2.1.map fD), .slice .full 0 [], .slice .full 0 [], .slice .full 0 []]],[some i.2.2.2]⟩) ?_ (m,[],_,0) ⟨h,rfl⟩)
  rintro⟨n,l,r,k⟩ ⟨h,hk⟩ IH
  dsimp only at hk;subst hk
  cases n with
  | zero=>simp only [Rd.params]at h;cases h
  | succ n=>
   simp only [Rd.params]at h
   repeat' (first
 | simp only [go_sem,hF,hP,hY,hZ]
 | (rw [Option.bind_eq_some_iff]at h;obtain⟨_,h1,h⟩:=h;first | (with_reducible refine CU (qS h1 (by with_unfolding_all rfl)) ?_) | (with_reducible refine CU (vq h1 (by with_unfolding_all rfl)) ?_) | (obtain⟨hY,nR⟩:=nn h1;subst nR;simp only [go_sem,hF,hP,hY,hZ]) | (with_reducible refine CU (oj h1 (by with_unfolding_all rfl)) ?_))
 | (with_reducible refine CU (jw (by with_unfolding_all rfl)) ?_)
 | (with_reducible first | refine bB fun hc=> ?_ | refine bC fun hc=> ?_ | refine bD (fun hc=> ?_) fun hc=> ?_) <;> (try simp only [hc,bs, ↓reduceIte]at h) <;> try simp only [hc]
 | (with_reducible refine aH hQ ?_;exact pQ)
 | (cases h;replace h:=hr;clear hr;(try simp only [bs, ↓reduceIte]at h))
 | (cases h;done))
   ·refine cM 3 1 (IH (n,_,_,l.length+1) ⟨h,by simp⟩ (Nat.lt_succ_self _))
   ·refine cM 3 0 (ub hB hQ _ _ h)
   ·refine cM 3 0 (ub hB hQ _ _ h)
 ·refine cM 3 0 (ub hB hQ [] _ h)
theorem FZ {m:Nat} {B:e9} {Q:Exit→Tm→St→Prop} {row:List D} {g:List aB} {p:Pg×Rd} (hB:B.s = ⟨[row],[]⟩) (hQ:gS 1 0 [(2,some (true,2))] (.agg (cj p.1)) ⟨[bV p.2],[]⟩=Q)
 (r:Rd) {k:Nat} (h:((Rd.procs m k [] r).bind fun q=>some (⟨g,q.1⟩,q.2))=some p) :
 bm Tryz.prog B 49 QSP (jj 2 (lj (gi Tryz.prog B 49 QSY Q) Q)) [(0, .ptr 0 0),(2, .ptr 1 0),(3, .ptr 2 0)]
  ⟨[bV r,[.slice .full 0 [], .slice .full 0 []],[.slice .shared 1 (g.map encStr), .slice .full 0 []]],[]⟩:=by
 have⟨hF,hP,hY,hZ⟩:=bt
 rw [Option.bind_eq_some_iff]at h
 obtain⟨q,h,hr⟩:=h
 cases hr
 refine bm.sw 2 1 5 rfl rfl ?_
 simp only [go_sem,hF,hP,hY,hZ]
 refine cM 3 1 (bm.ind (ι:=Nat×List Pc×Rd×Nat) (fun i=>Rd.procs m i.1 i.2.1 i.2.2.1=some q∧i.2.2.2=i.2.1.length) (fun i=>i.1)
  (fun i=> [(0, .ptr 0 0),(2, .ptr 1 0),(3, .ptr 2 0)]) (fun i=>⟨[bV i.2.2.1,[.slice .full 0 [], .slice .full 0 []],[.slice .shared 1 (g.map encStr), .slice (.tok 0) 5 (i.2.1.map cz)]],[some i.2.2.2]⟩) ?_ (k,[],r,0) ⟨h,rfl⟩)
 rintro⟨n,l,r,k⟩ ⟨h,hk⟩ IH
 dsimp only at hk;subst hk
 cases n with
 | zero=>simp only [Rd.procs]at h;cases h
 | succ n=>
  simp only [Rd.procs,Rd.L8,Rd.E9]at h
  repeat' (first
 | simp only [go_sem,hF,hP,hY,hZ]
 | (rw [Option.bind_eq_some_iff]at h;obtain⟨_,h1,h⟩:=h;first | (with_reducible refine CU (xP h1 (by with_unfolding_all rfl)) ?_;have hF:=is_lt h1) | (with_reducible refine CU (AR h1 (by with_unfolding_all rfl)) ?_) | (with_reducible refine CU (XM h1 (by with_unfolding_all rfl)) ?_) | (obtain⟨hY,nR⟩:=nn h1;subst nR;simp only [go_sem,hF,hP,hY,hZ]) | (with_reducible refine CU (nA h1 (by with_unfolding_all rfl)) ?_))
 | (with_reducible refine CU (jw (by with_unfolding_all rfl)) ?_)
 | (with_reducible first | refine bB fun hc=> ?_ | refine bC fun hc=> ?_ | refine bD (fun hc=> ?_) fun hc=> ?_) <;> (try simp only [hc,bs, ↓reduceIte]at h) <;> try simp only [hc]
 | (with_reducible refine aH hQ ?_;(try cases h);simp only [az,aA,bx,bA,go_sem,hF,hP,hY,hZ];repeat' (first | exact Ok.out | with_reducible refine aE ?_ ?_ | (simp;done))))
  ·refine cM 3 1 (IH (n,_,_,l.length+1) ⟨h,by simp⟩ (Nat.lt_succ_self _))
end Go.Abs

/-! Lex3 -/

namespace Go.Abs
set_option maxRecDepth 8000
open Go.Proofs
theorem Qr {c:UInt8} {r:aB} (h:mU c=true):0<px (c::r):=by simp [px,h]
theorem Kl {text:aB} (hl:text.length≤100000) {B:e9} {Q:Exit→Tm→St→Prop} {p:List bJ×Int×Int} (hB:B.s=S0)
 (hQ:gS 0 0 [(2,none),(3,some (true,2))] (.tuple [.slice .shared 4 (p.1.map dP), .agg (lH p.2)]) ⟨[],[]⟩=Q)
 {n pos:Nat} {out:List bJ} (ho:out.length≤2000) (hp:pos≤text.length) (IH:qw text B Q p (n+1))
 {c:UInt8} {r:aB} (h1:text.drop pos=c::r) (hb:sM c=false) (hc:((c.toNat:Int)==35)=false) (hL:oi c=false) (hD:mU c=true) (hn:(c::r).length<n+1) (h:l9 (n+1) pos (c::r) out=p) :
 gi Tryz.prog B 152 xL (iQ Tryz.prog B 152 sK Q) (mW text out pos) (nN out):=by
 have hY:0<1:=Nat.zero_lt_one
 have hZ:0<1:=Nat.zero_lt_one
 have hP:=(drop_cons h1).1
 have g4:=(drop_cons h1).2.2.2
 have hF:pos<4611686018427387904:=by omega
 have ek:decide ((pos:Int)≥(text.length:Int))=false:=by simp;omega
 have fI:(out.length+1)*41≤bI:=by simp only [bI];omega
 have cb:=Fl (c::r)
 have sh:=Qr (r:=r) hD
 have qT:(c::r).length=text.length - pos:=by rw [← h1,List.length_drop]
 have uv:=Fm (c::r)
 simp only [l9,hb,Bool.false_eq_true, ↓reduceIte,hc,Ca,hL,hD]at h
 simp only [sM,Bool.or_eq_false_iff]at hb
 generalize hK:px (c::r)=k at h cb sh uv
 have hlen:((c::r).take k).length=k:=by rw [List.length_take];omega
 have n4:=fun s=>Pv uv (by rw [hlen];omega) s
 simp only [hlen]at h
 have fy:((c::r).take k)[0]? = some c:=by rw [List.getElem?_take_of_lt sh];rfl
 have e2:(0:Int)≤(pos:Int)∧(pos:Int)≤((pos+k:Nat):Int)∧((pos+k:Nat):Int)≤(text.length:Int):=by omega
 have e3:(text.take (pos+k)).drop pos=(c::r).take k:=by rw [v8,h1]
 have fin:text.drop (pos+k)=(c::r).drop k:=by rw [← h1,List.drop_drop]
 have rR:((c::r).drop k).length<n:=by rw [List.length_drop];omega
 have SL:pos+k≤text.length:=by omega
 repeat' (first
 | simp only [go_sem,hF,hP,hY,hZ,ek,hb.1.1.1,hb.1.1.2,hb.1.2,hb.2,hc,hL,hD]
 | (with_reducible refine CU (gy _ _) ?_)
 | (with_reducible refine CU (iM _ _) ?_)
 | (with_reducible refine bN (l:=3) (by with_unfolding_all rfl) ?_)
 | (with_reducible refine aH hQ ?_;simp only [az,aA,bx,bA,go_sem,hF,hP,hY,hZ];repeat' (first | exact Ok.out | with_reducible refine aE ?_ ?_ | (simp;done))))
 refine cM 2 1 (bm.ind (ι:=aB×Nat) (fun i=>text.drop i.2=i.1∧i.2+px i.1=pos+k) (fun i=>i.1.length)
  (fun i=>mW text out i.2) (fun i=>⟨[[.int .i64 0, .int .i64 0],[.int .i64 0, .str [], .int .i64 0, .int .i64 (pos:Int)]],[some out.length]⟩) ?_ (c::r,pos) ⟨h1,by dsimp only;omega⟩)
 rintro⟨rest,j⟩ ⟨j1,j2⟩ WW
 dsimp only at j1 j2
 have step : ∀ d ou,rest=d::ou→mU d=true→gi Tryz.prog B 152 WA (lj (bm Tryz.prog B 152 WA
  (jj 3 (lj (gi Tryz.prog B 152 WB (iQ Tryz.prog B 152 sK Q)) (iQ Tryz.prog B 152 sK Q))))
  (jj 3 (lj (gi Tryz.prog B 152 WB (iQ Tryz.prog B 152 sK Q)) (iQ Tryz.prog B 152 sK Q))))
  (mW text out j) ⟨[[.int .i64 0, .int .i64 0],[.int .i64 0, .str [], .int .i64 0, .int .i64 (pos:Int)]],[some out.length]⟩:=by
  rintro d ou rfl hd
  obtain⟨hP,g2,ek,g5⟩:=drop_cons j1
  have hF:j<4611686018427387904:=by omega
  simp only [px,hd, ↓reduceIte]at j2
  repeat' (first
 | simp only [go_sem,hF,hP,hY,hZ,ek,hd]
 | (with_reducible refine CU (iM _ _) ?_)
 | (with_reducible first | refine bB fun hc=> ?_ | refine bC fun hc=> ?_ | refine bD (fun hc=> ?_) fun hc=> ?_) <;> (try simp only [hc,bs, ↓reduceIte]at h) <;> try simp only [hc]
 | (with_reducible refine aH hQ ?_;(try cases h);simp only [az,aA,bx,bA,go_sem,hF,hP,hY,hZ,ek,hd];repeat' (first | exact Ok.out | with_reducible refine aE ?_ ?_ | (simp;done))))
  refine cM 2 1 (WW (ou,j+1) ⟨g2,by dsimp only;omega⟩ (Nat.lt_succ_self _))
 cases rest with
 | nil=>
  have ek:=drop_nil j1
  simp only [px,Nat.add_zero]at j2
  subst j2
  by_cases hz:k > 1∧(c.toNat:Int)=48
  ·have z1:decide ((k:Int) > 1)=true:=by simp;omega
   have z2:((c.toNat:Int)==48)=true:=by simp [hz.2]
   rw [if_pos hz]at h
   dsimp only at h
   repeat' (first
 | simp only [go_sem,hF,hP,hY,hZ,ek,e2,e3,hlen,fy,z1,z2]
 | (with_reducible refine bN (l:=4) (by with_unfolding_all rfl) ?_)
 | (with_reducible refine bN (l:=5) (by with_unfolding_all rfl) ?_)
 | (with_reducible first | refine bB fun hc=> ?_ | refine bC fun hc=> ?_ | refine bD (fun hc=> ?_) fun hc=> ?_) <;> (try simp only [hc,bs, ↓reduceIte]at h) <;> try simp only [hc]
 | (with_reducible refine aH hQ ?_;(try cases h);simp only [az,aA,bx,bA,go_sem,hF,hP,hY,hZ,ek,e2,e3,hlen,fy,z1,z2];repeat' (first | exact Ok.out | with_reducible refine aE ?_ ?_ | (simp;done))))
  ·have F0:decide ((k:Int) > 1)=false∨(decide ((k:Int) > 1)=true∧((c.toNat:Int)==48)=false):=by
    by_cases h1:k > 1
    ·right;exact⟨by simp;omega,by simp;intro h2;exact hz ⟨h1,h2⟩⟩
    ·left;simp;omega
   rw [if_neg hz]at h
   cases hw:tG 0 ((c::r).take k)with
   | none=>
    have F1:nB ((c::r).take k)=(0,false):=by simp only [nB,hw]
    simp only [F1]at n4
    simp only [hw]at h
    rcases F0 with z1 | ⟨z1,z2⟩
    ·repeat' (first
 | simp only [go_sem,hF,hP,hY,hZ,ek,e2,e3,hlen,fy,z1]
 | (with_reducible refine CU (n4 _) ?_)
 | (with_reducible refine bN (l:=4) (by with_unfolding_all rfl) ?_)
 | (with_reducible refine bN (l:=5) (by with_unfolding_all rfl) ?_)
 | (with_reducible first | refine bB fun hc=> ?_ | refine bC fun hc=> ?_ | refine bD (fun hc=> ?_) fun hc=> ?_) <;> (try simp only [hc,bs, ↓reduceIte]at h) <;> try simp only [hc]
 | (with_reducible refine aH hQ ?_;(try cases h);simp only [az,aA,bx,bA,go_sem,hF,hP,hY,hZ,ek,e2,e3,hlen,fy,z1];repeat' (first | exact Ok.out | with_reducible refine aE ?_ ?_ | (simp;done))))
    ·repeat' (first
 | simp only [go_sem,hF,hP,hY,hZ,ek,e2,e3,hlen,fy,z1,z2]
 | (with_reducible refine CU (n4 _) ?_)
 | (with_reducible refine bN (l:=4) (by with_unfolding_all rfl) ?_)
 | (with_reducible refine bN (l:=5) (by with_unfolding_all rfl) ?_)
 | (with_reducible first | refine bB fun hc=> ?_ | refine bC fun hc=> ?_ | refine bD (fun hc=> ?_) fun hc=> ?_) <;> (try simp only [hc,bs, ↓reduceIte]at h) <;> try simp only [hc]
 | (with_reducible refine aH hQ ?_;(try cases h);simp only [az,aA,bx,bA,go_sem,hF,hP,hY,hZ,ek,e2,e3,hlen,fy,z1,z2];repeat' (first | exact Ok.out | with_reducible refine aE ?_ ?_ | (simp;done))))
   | some v=>
    have F1:nB ((c::r).take k)=(v,true):=by simp only [nB,hw]
    simp only [F1]at n4
    simp only [hw,hlen]at h
    by_cases pN:out.length=2000
    ·have je:((out.length:Int)==2000)=true:=by simp [pN]
     simp only [pN, ↓reduceIte]at h
     rcases F0 with z1 | ⟨z1,z2⟩
     ·repeat' (first
 | simp only [go_sem,hF,hP,hY,hZ,ek,e2,e3,hlen,fy,z1,je]
 | (with_reducible refine CU (n4 _) ?_)
 | (with_reducible refine bN (l:=4) (by with_unfolding_all rfl) ?_)
 | (with_reducible refine bN (l:=5) (by with_unfolding_all rfl) ?_)
 | (with_reducible first | refine bB fun hc=> ?_ | refine bC fun hc=> ?_ | refine bD (fun hc=> ?_) fun hc=> ?_) <;> (try simp only [hc,bs, ↓reduceIte]at h) <;> try simp only [hc]
 | (with_reducible refine aH hQ ?_;(try cases h);simp only [az,aA,bx,bA,go_sem,hF,hP,hY,hZ,ek,e2,e3,hlen,fy,z1,je];repeat' (first | exact Ok.out | with_reducible refine aE ?_ ?_ | (simp;done))))
     ·repeat' (first
 | simp only [go_sem,hF,hP,hY,hZ,ek,e2,e3,hlen,fy,z1,z2,je]
 | (with_reducible refine CU (n4 _) ?_)
 | (with_reducible refine bN (l:=4) (by with_unfolding_all rfl) ?_)
 | (with_reducible refine bN (l:=5) (by with_unfolding_all rfl) ?_)
 | (with_reducible first | refine bB fun hc=> ?_ | refine bC fun hc=> ?_ | refine bD (fun hc=> ?_) fun hc=> ?_) <;> (try simp only [hc,bs, ↓reduceIte]at h) <;> try simp only [hc]
 | (with_reducible refine aH hQ ?_;(try cases h);simp only [az,aA,bx,bA,go_sem,hF,hP,hY,hZ,ek,e2,e3,hlen,fy,z1,z2,je];repeat' (first | exact Ok.out | with_reducible refine aE ?_ ?_ | (simp;done))))
    ·have je:((out.length:Int)==2000)=false:=by simp;omega
     have yU : ∀ t:bJ,(out++ [t]).length≤2000:=by intro t;simp;omega
     simp only [pN, ↓reduceIte]at h
     rcases F0 with z1 | ⟨z1,z2⟩
     ·repeat' (first
 | simp only [go_sem,hF,hP,hY,hZ,ek,e2,e3,hlen,fy,z1,je,fI]
 | (with_reducible refine CU (n4 _) ?_)
 | (with_reducible refine bN (l:=4) (by with_unfolding_all rfl) ?_)
 | (with_reducible refine bN (l:=5) (by with_unfolding_all rfl) ?_)
 | (refine IH.to hB fin h rR (yU _) SL (Nat.lt_succ_self _) ?_ ?_ ?_ <;> ((try simp only [go_sem,hF,hP,hY,hZ]);repeat' (first | exact Ok.out | with_reducible refine aE ?_ ?_ | omega | (simp;done)));done)
 | (with_reducible first | refine bB fun hc=> ?_ | refine bC fun hc=> ?_ | refine bD (fun hc=> ?_) fun hc=> ?_) <;> (try simp only [hc,bs, ↓reduceIte]at h) <;> try simp only [hc]
 | (with_reducible refine aH hQ ?_;(try cases h);simp only [az,aA,bx,bA,go_sem,hF,hP,hY,hZ,ek,e2,e3,hlen,fy,z1,je,fI];repeat' (first | exact Ok.out | with_reducible refine aE ?_ ?_ | (simp;done))))
     ·repeat' (first
 | simp only [go_sem,hF,hP,hY,hZ,ek,e2,e3,hlen,fy,z1,z2,je,fI]
 | (with_reducible refine CU (n4 _) ?_)
 | (with_reducible refine bN (l:=4) (by with_unfolding_all rfl) ?_)
 | (with_reducible refine bN (l:=5) (by with_unfolding_all rfl) ?_)
 | (refine IH.to hB fin h rR (yU _) SL (Nat.lt_succ_self _) ?_ ?_ ?_ <;> ((try simp only [go_sem,hF,hP,hY,hZ]);repeat' (first | exact Ok.out | with_reducible refine aE ?_ ?_ | omega | (simp;done)));done)
 | (with_reducible first | refine bB fun hc=> ?_ | refine bC fun hc=> ?_ | refine bD (fun hc=> ?_) fun hc=> ?_) <;> (try simp only [hc,bs, ↓reduceIte]at h) <;> try simp only [hc]
 | (with_reducible refine aH hQ ?_;(try cases h);simp only [az,aA,bx,bA,go_sem,hF,hP,hY,hZ,ek,e2,e3,hlen,fy,z1,z2,je,fI];repeat' (first | exact Ok.out | with_reducible refine aE ?_ ?_ | (simp;done))))
 | cons d rest=>
  obtain⟨hP,g2,ek,g5⟩:=drop_cons j1
  have hF:j<4611686018427387904:=by omega
  cases hd:mU d
  ·simp only [px,hd,Bool.false_eq_true, ↓reduceIte,Nat.add_zero]at j2
   subst j2
   by_cases hz:k > 1∧(c.toNat:Int)=48
   ·have z1:decide ((k:Int) > 1)=true:=by simp;omega
    have z2:((c.toNat:Int)==48)=true:=by simp [hz.2]
    rw [if_pos hz]at h
    dsimp only at h
    repeat' (first
 | simp only [go_sem,hF,hP,hY,hZ,ek,hd,e2,e3,hlen,fy,z1,z2]
 | (with_reducible refine CU (iM _ _) ?_)
 | (with_reducible refine bN (l:=4) (by with_unfolding_all rfl) ?_)
 | (with_reducible refine bN (l:=5) (by with_unfolding_all rfl) ?_)
 | (with_reducible first | refine bB fun hc=> ?_ | refine bC fun hc=> ?_ | refine bD (fun hc=> ?_) fun hc=> ?_) <;> (try simp only [hc,bs, ↓reduceIte]at h) <;> try simp only [hc]
 | (with_reducible refine aH hQ ?_;(try cases h);simp only [az,aA,bx,bA,go_sem,hF,hP,hY,hZ,ek,hd,e2,e3,hlen,fy,z1,z2];repeat' (first | exact Ok.out | with_reducible refine aE ?_ ?_ | (simp;done))))
   ·have F0:decide ((k:Int) > 1)=false∨(decide ((k:Int) > 1)=true∧((c.toNat:Int)==48)=false):=by
     by_cases h1:k > 1
     ·right;exact⟨by simp;omega,by simp;intro h2;exact hz ⟨h1,h2⟩⟩
     ·left;simp;omega
    rw [if_neg hz]at h
    cases hw:tG 0 ((c::r).take k)with
    | none=>
     have F1:nB ((c::r).take k)=(0,false):=by simp only [nB,hw]
     simp only [F1]at n4
     simp only [hw]at h
     rcases F0 with z1 | ⟨z1,z2⟩
     ·repeat' (first
 | simp only [go_sem,hF,hP,hY,hZ,ek,hd,e2,e3,hlen,fy,z1]
 | (with_reducible refine CU (iM _ _) ?_)
 | (with_reducible refine CU (n4 _) ?_)
 | (with_reducible refine bN (l:=4) (by with_unfolding_all rfl) ?_)
 | (with_reducible refine bN (l:=5) (by with_unfolding_all rfl) ?_)
 | (with_reducible first | refine bB fun hc=> ?_ | refine bC fun hc=> ?_ | refine bD (fun hc=> ?_) fun hc=> ?_) <;> (try simp only [hc,bs, ↓reduceIte]at h) <;> try simp only [hc]
 | (with_reducible refine aH hQ ?_;(try cases h);simp only [az,aA,bx,bA,go_sem,hF,hP,hY,hZ,ek,hd,e2,e3,hlen,fy,z1];repeat' (first | exact Ok.out | with_reducible refine aE ?_ ?_ | (simp;done))))
     ·repeat' (first
 | simp only [go_sem,hF,hP,hY,hZ,ek,hd,e2,e3,hlen,fy,z1,z2]
 | (with_reducible refine CU (iM _ _) ?_)
 | (with_reducible refine CU (n4 _) ?_)
 | (with_reducible refine bN (l:=4) (by with_unfolding_all rfl) ?_)
 | (with_reducible refine bN (l:=5) (by with_unfolding_all rfl) ?_)
 | (with_reducible first | refine bB fun hc=> ?_ | refine bC fun hc=> ?_ | refine bD (fun hc=> ?_) fun hc=> ?_) <;> (try simp only [hc,bs, ↓reduceIte]at h) <;> try simp only [hc]
 | (with_reducible refine aH hQ ?_;(try cases h);simp only [az,aA,bx,bA,go_sem,hF,hP,hY,hZ,ek,hd,e2,e3,hlen,fy,z1,z2];repeat' (first | exact Ok.out | with_reducible refine aE ?_ ?_ | (simp;done))))
    | some v=>
     have F1:nB ((c::r).take k)=(v,true):=by simp only [nB,hw]
     simp only [F1]at n4
     simp only [hw,hlen]at h
     by_cases pN:out.length=2000
     ·have je:((out.length:Int)==2000)=true:=by simp [pN]
      simp only [pN, ↓reduceIte]at h
      rcases F0 with z1 | ⟨z1,z2⟩
      ·repeat' (first
 | simp only [go_sem,hF,hP,hY,hZ,ek,hd,e2,e3,hlen,fy,z1,je]
 | (with_reducible refine CU (iM _ _) ?_)
 | (with_reducible refine CU (n4 _) ?_)
 | (with_reducible refine bN (l:=4) (by with_unfolding_all rfl) ?_)
 | (with_reducible refine bN (l:=5) (by with_unfolding_all rfl) ?_)
 | (with_reducible first | refine bB fun hc=> ?_ | refine bC fun hc=> ?_ | refine bD (fun hc=> ?_) fun hc=> ?_) <;> (try simp only [hc,bs, ↓reduceIte]at h) <;> try simp only [hc]
 | (with_reducible refine aH hQ ?_;(try cases h);simp only [az,aA,bx,bA,go_sem,hF,hP,hY,hZ,ek,hd,e2,e3,hlen,fy,z1,je];repeat' (first | exact Ok.out | with_reducible refine aE ?_ ?_ | (simp;done))))
      ·repeat' (first
 | simp only [go_sem,hF,hP,hY,hZ,ek,hd,e2,e3,hlen,fy,z1,z2,je]
 | (with_reducible refine CU (iM _ _) ?_)
 | (with_reducible refine CU (n4 _) ?_)
 | (with_reducible refine bN (l:=4) (by with_unfolding_all rfl) ?_)
 | (with_reducible refine bN (l:=5) (by with_unfolding_all rfl) ?_)
 | (with_reducible first | refine bB fun hc=> ?_ | refine bC fun hc=> ?_ | refine bD (fun hc=> ?_) fun hc=> ?_) <;> (try simp only [hc,bs, ↓reduceIte]at h) <;> try simp only [hc]
 | (with_reducible refine aH hQ ?_;(try cases h);simp only [az,aA,bx,bA,go_sem,hF,hP,hY,hZ,ek,hd,e2,e3,hlen,fy,z1,z2,je];repeat' (first | exact Ok.out | with_reducible refine aE ?_ ?_ | (simp;done))))
     ·have je:((out.length:Int)==2000)=false:=by simp;omega
      have yU : ∀ t:bJ,(out++ [t]).length≤2000:=by intro t;simp;omega
      simp only [pN, ↓reduceIte]at h
      rcases F0 with z1 | ⟨z1,z2⟩
      ·repeat' (first
 | simp only [go_sem,hF,hP,hY,hZ,ek,hd,e2,e3,hlen,fy,z1,je,fI]
 | (with_reducible refine CU (iM _ _) ?_)
 | (with_reducible refine CU (n4 _) ?_)
 | (with_reducible refine bN (l:=4) (by with_unfolding_all rfl) ?_)
 | (with_reducible refine bN (l:=5) (by with_unfolding_all rfl) ?_)
 | (refine IH.to hB fin h rR (yU _) SL (Nat.lt_succ_self _) ?_ ?_ ?_ <;> ((try simp only [go_sem,hF,hP,hY,hZ]);repeat' (first | exact Ok.out | with_reducible refine aE ?_ ?_ | omega | (simp;done)));done)
 | (with_reducible first | refine bB fun hc=> ?_ | refine bC fun hc=> ?_ | refine bD (fun hc=> ?_) fun hc=> ?_) <;> (try simp only [hc,bs, ↓reduceIte]at h) <;> try simp only [hc]
 | (with_reducible refine aH hQ ?_;(try cases h);simp only [az,aA,bx,bA,go_sem,hF,hP,hY,hZ,ek,hd,e2,e3,hlen,fy,z1,je,fI];repeat' (first | exact Ok.out | with_reducible refine aE ?_ ?_ | (simp;done))))
      ·repeat' (first
 | simp only [go_sem,hF,hP,hY,hZ,ek,hd,e2,e3,hlen,fy,z1,z2,je,fI]
 | (with_reducible refine CU (iM _ _) ?_)
 | (with_reducible refine CU (n4 _) ?_)
 | (with_reducible refine bN (l:=4) (by with_unfolding_all rfl) ?_)
 | (with_reducible refine bN (l:=5) (by with_unfolding_all rfl) ?_)
 | (refine IH.to hB fin h rR (yU _) SL (Nat.lt_succ_self _) ?_ ?_ ?_ <;> ((try simp only [go_sem,hF,hP,hY,hZ]);repeat' (first | exact Ok.out | with_reducible refine aE ?_ ?_ | omega | (simp;done)));done)
 | (with_reducible refine aH hQ ?_;simp only [az,aA,bx,bA,go_sem,hF,hP,hY,hZ];repeat' (first | exact Ok.out | with_reducible refine aE ?_ ?_ | (simp;done))))
  ·exact step d rest rfl hd
theorem HI {text:aB} (hl:text.length≤100000) {B:e9} {Q:Exit→Tm→St→Prop} {p:List bJ×Int×Int} (hB:B.s=S0)
 (hQ:gS 0 0 [(2,none),(3,some (true,2))] (.tuple [.slice .shared 4 (p.1.map dP), .agg (lH p.2)]) ⟨[],[]⟩=Q)
 {n pos:Nat} {out:List bJ} (ho:out.length≤2000) (hp:pos≤text.length) (IH:qw text B Q p (n+1)) {rest:aB} (h1:text.drop pos=rest) (h:l9 (n+1) pos rest out=p) (hn:rest.length<n+1) :
 gi Tryz.prog B 152 xL (iQ Tryz.prog B 152 sK Q) (mW text out pos) (nN out):=by
 cases rest with
 | nil=>exact lex_nil hl hB hQ ho hp IH h1 h
 | cons c r=>
  cases hb:sM c
  ·cases hc:((c.toNat:Int)==35)
   ·cases hL:oi c
    ·cases hD:mU c
     ·exact Px hl hB hQ ho hp IH h1 hb hc hL hD hn h
     ·exact Kl hl hB hQ ho hp IH h1 hb hc hL hD hn h
    ·exact Py hl hB hQ ho hp IH h1 hb hc hL hn h
   ·exact J1 hl hB hQ ho hp IH h1 hb hc hn h
  ·exact Me hl hB hQ ho hp IH h1 hb hn h
theorem XN {text:aB} (hl:text.length≤100000) {B:e9} {Q:Exit→Tm→St→Prop} {p:List bJ×Int×Int} (hB:B.s=S0)
 (hQ:gS 0 0 [(2,none),(3,some (true,2))] (.tuple [.slice .shared 4 (p.1.map dP), .agg (lH p.2)]) ⟨[],[]⟩=Q) : ∀ N,qw text B Q p N:=by
 intro N
 induction N with
 | zero=>intro n pos rest out _ _ _ _ _ h;exact absurd h (Nat.not_lt_zero _)
 | succ N ih=>
  intro n pos rest out h1 h h2 h3 h4 h5
  cases n with
  | zero=>omega
  | succ n=>
   refine mB.tx ?_
   show gi Tryz.prog B 152 xL (iQ Tryz.prog B 152 sK Q) (mW text out pos) (nN out)
   exact HI hl hB hQ h3 h4 (fun n' pos' ou b6 a b c d e f=>ih n' pos' ou b6 a b c d e (by omega)) h1 h h2
theorem aaN (text:aB) (hl:text.length<4611686018427387904) (s:St) :
 aD Tryz.prog xH [.str text] s (.tuple [.slice .shared 4 ((ny text).1.map dP), .agg (lH (ny text).2)]) s:=by
 refine aD.pure ?_ rfl (by simp [D.ok,D.bH,E5,Tag.ok,lH]) s
 generalize h:ny text=p
 unfold ny at h
 unfold S0
 refine aD.go GR rfl fun B Q hB hQ=> ?_
 have⟨hF,hP,hY,hZ⟩:=bt
 repeat' (first
 | simp only [go_sem,hF,hP,hY,hZ]
 | (with_reducible first | refine bB fun hc=> ?_ | refine bC fun hc=> ?_ | refine bD (fun hc=> ?_) fun hc=> ?_) <;> (try simp only [hc,bs, ↓reduceIte]at h) <;> try simp only [hc]
 | (with_reducible refine aH hQ ?_;(try cases h);simp only [az,aA,bx,bA,go_sem,hF,hP,hY,hZ];repeat' (first | exact Ok.out | with_reducible refine aE ?_ ?_ | (simp;done))))
 refine mB.once (Sem.jB ?_)
 simp only [go_sem,hF,hP,hY,hZ]
 refine Sem.jB ?_
 simp only [go_sem,hF,hP,hY,hZ]
 refine Sem.jB ?_
 simp only [go_sem,hF,hP,hY,hZ]
 refine Sem.jB ?_
 by_cases hz:text.length > 100000
 ·have mq:decide ((text.length:Int) > 100000)=true:=by simp;omega
  rw [if_pos hz]at h
  repeat' (first
 | simp only [go_sem,hF,hP,hY,hZ,mq]
 | (with_reducible first | refine bB fun hc=> ?_ | refine bC fun hc=> ?_ | refine bD (fun hc=> ?_) fun hc=> ?_) <;> (try simp only [hc,bs, ↓reduceIte]at h) <;> try simp only [hc]
 | (with_reducible refine aH hQ ?_;(try cases h);simp only [az,aA,bx,bA,go_sem,hF,hP,hY,hZ,mq];repeat' (first | exact Ok.out | with_reducible refine aE ?_ ?_ | (simp;done))))
 ·have mq:decide ((text.length:Int) > 100000)=false:=by simp;omega
  rw [if_neg hz]at h
  have me:text.length≤100000:=by omega
  have hQ':gS 0 0 [(2,none),(3,some (true,2))] (.tuple [.slice .shared 4 (p.1.map dP), .agg (lH p.2)]) ⟨[],[]⟩=Q:=hQ
  repeat' (first
 | simp only [go_sem,hF,hP,hY,hZ,mq]
 | (with_reducible refine aH hQ ?_;simp only [az,aA,bx,bA,go_sem,hF,hP,hY,hZ];repeat' (first | exact Ok.out | with_reducible refine aE ?_ ?_ | (simp;done))))
  refine Sem.jB ?_
  simp only [go_sem,hF,hP,hY,hZ]
  refine Sem.oD 4 4 rfl ?_
  simp only [go_sem,hF,hP,hY,hZ]
  refine Sem.re _ _ 2 1 (by rw [hB];exact k9 rfl) (by rw [hB];exact k9 rfl) ?_ ?_ (gB (HI me hB hQ' (out:= []) (pos:=0) (by simp) (Nat.zero_le _) (XN me hB hQ' _) rfl h (by simp)))
  ·(simp only [go_sem,hF,hP,hY,hZ];repeat' (first | exact Ok.out | with_reducible refine aE ?_ ?_))
  ·(simp only [go_sem,hF,hP,hY,hZ];repeat' (first | exact Ok.out | with_reducible refine aE ?_ ?_))
end Go.Abs

/-! MirParse -/

namespace Go.Abs
def SM (l:List bJ):Rd:=⟨l,0,0,0,0⟩
def Bk (m:Nat) (text:aB):Option (Pg×Int×Int):=
 if(ny text).2.1 != 0 then some (Au,(ny text).2)
 else(Rd.program m (SM (ny text).1)).bind fun p=>if p.2.code != 0 then some (Au,p.2.code,p.2.o5)else(p.1.BM).bind fun q=>some (q,0,0)
def aqz (m:Nat) (text:aB):Option (Ex×Int×Int):=
 if(ny text).2.1 != 0 then some (la,(ny text).2)
 else(Rd.whole m (SM (ny text).1)).bind fun x=>x.2.E9.bind fun b=>
  if b then(x.2.bad 3).bind fun r=>if !r.good then some (la,r.code,r.o5)else some (x.1,0,0)
  else if !x.2.good then some (la,x.2.code,x.2.o5)else some (x.1,0,0)
end Go.Abs

/-! Prs7 -/

namespace Go.Abs
set_option maxRecDepth 8000
open Go.Proofs
theorem Nb {m:Nat} {r:Rd} {p:Pg×Rd} (h:Rd.program m r=some p) {s:St} {o:Nat} (ho:s.aw[o]? = some (bV r)) :
 aD Tryz.prog kU [.ptr o 0] s (.agg (cj p.1)) ⟨s.aw.set o (bV p.2),s.aC⟩:=by
 refine aD.jl ?_ rfl (fk r) (fk p.2) (by simp [D.ok,iX]) ho
 unfold Rd.program at h
 refine aD.go sL rfl fun B Q hB hQ=> ?_
 have⟨hF,hP,hY,hZ⟩:=bt
 repeat' (first
 | simp only [go_sem,hF,hP,hY,hZ]
 | (with_reducible refine aH hQ ?_;simp only [az,aA,bx,bA,go_sem,hF,hP,hY,hZ];repeat' (first | exact Ok.out | with_reducible refine aE ?_ ?_ | (simp;done))))
 rw [Option.bind_eq_some_iff]at h
 obtain⟨q,h,hr⟩:=h
 refine bm.sw 2 0 1 rfl rfl ?_
 simp only [go_sem,hF,hP,hY,hZ]
 refine cM 3 1 (bm.ind (ι:=Nat×List aB×Rd×Nat) (fun i=>Rd.globals m i.1 i.2.1 i.2.2.1=some q∧i.2.2.2=i.2.1.length) (fun i=>i.1)
  (fun i=> [(0, .ptr 0 0),(2, .ptr 1 0),(3, .ptr 2 0)]) (fun i=>⟨[bV i.2.2.1,[.slice .full 0 [], .slice .full 0 []],[.slice (.tok 0) 1 (i.2.1.map encStr), .slice .full 0 []]],[some i.2.2.2]⟩) ?_ (m,[],r,0) ⟨h,rfl⟩)
 rintro⟨n,l,r,k⟩ ⟨h,hk⟩ IH
 dsimp only at hk;subst hk
 cases n with
 | zero=>simp only [Rd.globals]at h;cases h
 | succ n=>
  simp only [Rd.globals]at h
  repeat' (first
 | simp only [go_sem,hF,hP,hY,hZ]
 | (rw [Option.bind_eq_some_iff]at h;obtain⟨_,h1,h⟩:=h;first | (with_reducible refine CU (qS h1 (by with_unfolding_all rfl)) ?_) | (with_reducible refine CU (HH h1 (by with_unfolding_all rfl) (by with_unfolding_all rfl)) ?_))
 | (with_reducible first | refine bB fun hc=> ?_ | refine bC fun hc=> ?_ | refine bD (fun hc=> ?_) fun hc=> ?_) <;> (try simp only [hc,bs, ↓reduceIte]at h) <;> try simp only [hc]
 | (with_reducible refine aH hQ ?_;exact pQ)
 | (cases h;replace h:=hr;clear hr;(try simp only [bs, ↓reduceIte]at h))
 | (cases h;done))
  ·refine cM 3 1 (IH (n,_,_,_) ⟨h,rfl⟩ (Nat.lt_succ_self _))
  ·refine cM 3 0 (FZ hB hQ _ h)
theorem Uy {m:Nat} {text:aB} {p:Pg×Int×Int} (h:Bk m text=some p) (hl:text.length<4611686018427387904) (s:St) :
 aD Tryz.prog q9 [.str text] s (.tuple [.agg (cj p.1), .agg (lH p.2)]) s:=by
 refine aD.pure ?_ rfl (by simp [D.ok,D.bH,iX,lH]) s
 unfold Bk at h
 have XO:=aaN text hl
 generalize ny text=t at h XO
 unfold S0
 refine aD.go Az rfl fun B Q hB hQ=> ?_
 have⟨hF,hP,hY,hZ⟩:=bt
 repeat' (first
 | simp only [go_sem,hF,hP,hY,hZ,SM]
 | (rw [Option.bind_eq_some_iff]at h;obtain⟨_,h1,h⟩:=h;first | (with_reducible refine CU (Nb h1 (by with_unfolding_all rfl)) ?_) | (with_reducible refine CU (P4 h1 _) ?_))
 | (with_reducible refine CU (XO _) ?_)
 | (with_reducible first | refine bB fun hc=> ?_ | refine bC fun hc=> ?_ | refine bD (fun hc=> ?_) fun hc=> ?_) <;> (try simp only [hc,bs, ↓reduceIte]at h) <;> try simp only [hc]
 | (with_reducible refine aH hQ ?_;(try cases h);simp only [az,aA,bx,bA,go_sem,hF,hP,hY,hZ,SM];repeat' (first | exact Ok.out | with_reducible refine aE ?_ ?_ | (simp;done))))
end Go.Abs

/-! Room1 -/

namespace Go.Abs
set_option maxRecDepth 8000
open Go.Proofs
def XP (n k:Int):Int:=if Int.tmod n k<0 then Int.tmod n k+k else Int.tmod n k
def aaO (t:aB):Nat→aB
 | 0=> []
 | n+1=>aaO t n++t
def two (i:Nat):aB:= [UInt8.ofNat (48+i / 10),UInt8.ofNat (48+i % 10)]
def XQ (ahead:aB):Nat→aB
 | 0=> []
 | n+1=>(if n=0 then XQ ahead n else XQ ahead n++ [44])++(ahead++ [97]++two n)
def XR:Nat→aB
 | 0=> []
 | n+1=>XR n++([112,114,111,99,32,112]++two n++ [40,41,123,125])
end Go.Abs

/-! Al4 -/

namespace Go.Abs
set_option maxRecDepth 8000
open Go.Proofs
def XS (k:Int):List It→List Int
 | []=> []
 | i::l=>if k==0 || i.s.kind==k then i.s.id::XS k l else XS k l
def aqA (l:List Int) (n:Int):Int:=match l[(XP n l.length).toNat]? with | some x=>x | none=>0
def SN (id:Int):List It→Option It
 | []=>none
 | i::l=>if i.s.id==id then some i else SN id l
def SO (id:Int):List Pc→Option (It×aB)
 | []=>none
 | f::l=>match SN id f.flat with | some i=>some (i,f.name) | none=>SO id l
def it0:It:=⟨E1,0,0,false⟩
def aiZ (r:Option (It×aB)):D:=match r with
 | some (i,nm)=> .tuple [.agg (iC i), .str nm, .bool true]
 | none=> .tuple [.agg (iC it0), .str [], .bool false]
def Pg.aqB (p:Pg) (id:Int):Sm:=match SO id p.procs with | some (i,_)=>i.s | none=>E1
end Go.Abs

/-! Full1 -/

namespace Go.Abs
set_option maxRecDepth 8000
open Go.Proofs
def cy (t:aB) (n:Int):Int:=if n > 20000 then 20001 else if(t.length:Int)≥20000 - n then 20001 else n+1+t.length
mutual
def ej:Ex→Int→Int
 | ⟨_,_,name,kids⟩,n=>lM kids (cy name n)
def lM:List Ex→Int→Int
 | [],n=>n
 | x::l,n=>if n≤20000 then lM l (ej x n)else n
end
theorem kQ {t:aB} {n:Int} (h0:0≤n):cy t n≤20001∧(n≤20000→n+1≤cy t n)∧0≤cy t n∧(cy t n≤20000→n+1+t.length=cy t n):=by
 unfold cy;split
 ·omega
 ·split <;> omega
theorem sU : ∀ (m:Nat) (x:Ex),x.size≤m→∀ n:Int,0≤n→ej x n≤20001∧(n≤20000→n+1≤ej x n)∧0≤ej x n∧(ej x n≤20000→(x.size:Int)+1≤2*(ej x n - n)∧x.texts):=by
 intro m
 induction m with
 | zero=>rintro⟨op,v,name,kids⟩ h;simp only [Ex.size]at h;omega
 | succ m ih=>
  rintro⟨op,v,name,kids⟩ h n h0
  simp only [Ex.size]at h
  obtain⟨t1,t2,t3,t4⟩:=kQ (t:=name) h0
  have go : ∀ (l:List Ex),Ex.aY l≤m→∀ c:Int,0≤c→c≤20001→lM l c≤20001∧c≤lM l c∧(lM l c≤20000→(Ex.aY l:Int)≤2*(lM l c - c)∧Ex.sN l):=by
   intro l
   induction l with
   | nil=>intro _ c h0 h1;simp only [lM,Ex.aY];exact⟨h1,Int.le_refl _,fun _=>⟨by omega,trivial⟩⟩
   | cons y l L7=>
    intro hs c h0 h1
    simp only [Ex.aY]at hs ⊢
    simp only [lM]
    split
    ·rename_i hc
     obtain⟨a1,a2,a3,a4⟩:=ih y (by omega) c h0
     obtain⟨b1,b2,b3⟩:=L7 (by omega) (ej y c) a3 a1
     have:=a2 hc
     refine⟨b1,by omega,fun hw=> ?_⟩
     obtain⟨c1,c2⟩:=b3 hw
     obtain⟨d1,d2⟩:=a4 (by omega)
     exact⟨by omega,d2,c2⟩
    ·exact⟨h1,Int.le_refl _,fun hw=>by omega⟩
  obtain⟨g1,g2,g3⟩:=go kids (by omega) (cy name n) t3 t1
  simp only [ej,Ex.size]
  refine⟨g1,fun hn=>by have:=t2 hn;omega,by omega,fun hw=> ?_⟩
  obtain⟨k1,k2⟩:=g3 hw
  have:=t4 (by omega)
  exact⟨by omega,by omega,k2⟩
theorem oG (t:aB) {n:Int} (h0:0≤n) (h1:n≤20001) (s:St):aD Tryz.prog fE [.str t, .int .i64 n] s (.int .i64 (cy t n)) s:=by
 refine aD.pure ?_ rfl rfl s
 unfold S0
 have w1:IntKind.wrap .i64 (20000 - n)=20000 - n:=cY (by omega) (by omega)
 have w2:IntKind.wrap .i64 (n+1)=n+1:=cY (by omega) (by omega)
 by_cases c:n > 20000
 ·have c1:decide (n > 20000)=true:=by simp;omega
  have e:cy t n=20001:=by simp [cy,c]
  rw [e]
  refine aD.go nw rfl fun B Q hB hQ=> ?_
  have⟨hF,hP,hY,hZ⟩:=bt
  repeat' (first
 | simp only [go_sem,hF,hP,hY,hZ,c1,w1,w2]
 | (with_reducible refine aH hQ ?_;simp only [az,aA,Option.some.injEq,exists_eq_left',go_sem,hF,hP,hY,hZ];repeat' (first | exact Ok.out | with_reducible refine aE ?_ ?_ | (simp;done))))
 ·have c1:decide (n > 20000)=false:=by simp;omega
  by_cases d:(t.length:Int)≥20000 - n
  ·have d1:decide ((t.length:Int)≥20000 - n)=true:=by simp;omega
   have e:cy t n=20001:=by unfold cy;rw [if_neg c,if_pos d]
   rw [e]
   refine aD.go nw rfl fun B Q hB hQ=> ?_
   have⟨hF,hP,hY,hZ⟩:=bt
   repeat' (first
 | simp only [go_sem,hF,hP,hY,hZ,c1,d1,w1,w2]
 | (with_reducible refine aH hQ ?_;simp only [az,aA,Option.some.injEq,exists_eq_left',go_sem,hF,hP,hY,hZ];repeat' (first | exact Ok.out | with_reducible refine aE ?_ ?_ | (simp;done))))
  ·have d1:decide ((t.length:Int)≥20000 - n)=false:=by simp;omega
   have e:cy t n=n+1+t.length:=by unfold cy;rw [if_neg c,if_neg d]
   have w3:IntKind.wrap .i64 (n+1+t.length)=n+1+t.length:=cY (by omega) (by omega)
   rw [e]
   refine aD.go nw rfl fun B Q hB hQ=> ?_
   have⟨hF,hP,hY,hZ⟩:=bt
   repeat' (first
 | simp only [go_sem,hF,hP,hY,hZ,c1,d1,w1,w2,w3]
 | (with_reducible refine aH hQ ?_;simp only [az,aA,Option.some.injEq,exists_eq_left',go_sem,hF,hP,hY,hZ];repeat' (first | exact Ok.out | with_reducible refine aE ?_ ?_ | (simp;done))))
theorem F2 : ∀ (m:Nat) (x:Ex),x.size≤m→∀ {n:Int},0≤n→n≤20000→∀ s:St,aD Tryz.prog iJ [.agg (bp x), .int .i64 n] s (.int .i64 (ej x n)) s:=by
 intro m
 induction m with
 | zero=>rintro⟨op,v,name,kids⟩ h;simp only [Ex.size]at h;omega
 | succ m ih=>
  rintro⟨op,v,name,kids⟩ er n h0 h1 s
  refine aD.pure ?_ (by simp [D.bH,D.ok,gw]) rfl s
  simp only [Ex.size]at er
  have hk : ∀ y∈kids,∀ {n:Int},0≤n→n≤20000→∀ s:St,aD Tryz.prog iJ [.agg (bp y), .int .i64 n] s (.int .i64 (ej y n)) s:=fun y hy=>ih y (by have:=Ex.b9 hy;omega)
  have ht:=fun s=>oG name h0 (by omega) s
  obtain⟨t1,t2,t3,t4⟩:=kQ (t:=name) h0
  unfold S0
  generalize h:ej ⟨op,v,name,kids⟩ n=p
  simp only [ej]at h
  refine aD.go xM rfl fun B Q hB hQ=> ?_
  have⟨hF,hP,hY,hZ⟩:=bt
  repeat' (first
 | simp only [go_sem,hF,hP,hY,hZ]
 | (with_reducible refine CU (ht _) ?_)
 | (with_reducible first | refine bB fun hc=> ?_ | refine bC fun hc=> ?_ | refine bD (fun hc=> ?_) fun hc=> ?_) <;> (try simp only [hc,bs, ↓reduceIte]at h) <;> try simp only [hc]
 | (with_reducible refine aH hQ ?_;(try cases h);simp only [az,aA,bx,bA,go_sem,hF,hP,hY,hZ];repeat' (first | exact Ok.out | with_reducible refine aE ?_ ?_ | (simp;done))))
  refine cM 1 0 (bm.ind (ι:=List Ex×Nat×Int) (fun i=>kids.drop i.2.1=i.1∧lM i.1 i.2.2=p∧(i.2.1:Int)≤i.2.2∧i.2.2≤20001) (fun i=>i.1.length)
   (fun i=> [(1, .int .i64 i.2.2),(2, .ptr 0 0),(5, .int .i64 (i.2.1:Int))]) (fun i=>⟨[bp ⟨op,v,name,kids⟩],[]⟩) ?_ (kids,0,cy name n) ⟨rfl,h,t3,t1⟩)
  rintro⟨rest,k,c⟩ ⟨g1,h,g3,g4⟩ IH
  dsimp only at g1 h g3 g4
  cases rest with
  | nil=>
   have hF:=drop_nil g1
   simp only [lM]at h
   repeat' (first
 | simp only [go_sem,hF,hP,hY,hZ]
 | (with_reducible first | refine bB fun hc=> ?_ | refine bC fun hc=> ?_ | refine bD (fun hc=> ?_) fun hc=> ?_) <;> (try simp only [hc,bs, ↓reduceIte]at h) <;> try simp only [hc]
 | (with_reducible refine aH hQ ?_;(try cases h);simp only [az,aA,bx,bA,go_sem,hF,hP,hY,hZ];repeat' (first | exact Ok.out | with_reducible refine aE ?_ ?_ | (simp;done))))
  | cons y rest=>
   obtain⟨hP,g2,hF,g5⟩:=drop_cons g1
   simp only [lM]at h
   by_cases hc:c≤20000
   ·have c1:decide (c≤20000)=true:=by simp;omega
    have hy:=fun s=>hk y (List.mem_of_getElem? hP) (n:=c) (by omega) hc s
    obtain⟨a1,a2,a3,a4⟩:=sU _ y (Nat.le_refl _) c (by omega)
    have:=a2 hc
    have w3:IntKind.wrap .i64 ((k:Int)+1)=((k+1:Nat):Int):=by rw [cY] <;> omega
    rw [if_pos hc]at h
    repeat' (first
 | simp only [go_sem,hF,hP,hY,hZ,c1,w3]
 | (with_reducible refine CU (hy _) ?_)
 | (with_reducible first | refine bB fun hc=> ?_ | refine bC fun hc=> ?_ | refine bD (fun hc=> ?_) fun hc=> ?_) <;> (try simp only [hc,bs, ↓reduceIte]at h) <;> try simp only [hc]
 | (with_reducible refine aH hQ ?_;(try cases h);simp only [az,aA,bx,bA,go_sem,hF,hP,hY,hZ,c1,w3];repeat' (first | exact Ok.out | with_reducible refine aE ?_ ?_ | (simp;done))))
    refine cM 1 0 (IH (rest,k+1,ej y c) ⟨g2,h,by dsimp only;omega,a1⟩ (Nat.lt_succ_self _))
   ·have c1:decide (c≤20000)=false:=by simp;omega
    rw [if_neg hc]at h
    repeat' (first
 | simp only [go_sem,hF,hP,hY,hZ,c1]
 | (with_reducible first | refine bB fun hc=> ?_ | refine bC fun hc=> ?_ | refine bD (fun hc=> ?_) fun hc=> ?_) <;> (try simp only [hc,bs, ↓reduceIte]at h) <;> try simp only [hc]
 | (with_reducible refine aH hQ ?_;(try cases h);simp only [az,aA,bx,bA,go_sem,hF,hP,hY,hZ,c1];repeat' (first | exact Ok.out | with_reducible refine aE ?_ ?_ | (simp;done))))
end Go.Abs
