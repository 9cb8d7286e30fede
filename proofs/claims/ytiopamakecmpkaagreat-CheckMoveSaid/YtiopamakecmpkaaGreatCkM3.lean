/-
  What is proved here: part 3 of the road to the claim (MayEq, MayEq2, Rng, FineM, Swap2p, Cnt, MirFlat, Frz, Flat1, Flat2, Flat3, Sl1, MirFlat2, Sl2, Nm1, Nm2, Nm3, Tree1, Tree2, Sc1, Sc2, Sc3, ScP, Sc4, Sc5, Ar1, Ar2, Ar3, Srt1, Shelf, SortR, SrtP, Tc1, Tc2, Tc3, Bsl, Tc4, Tc5, Tc6, Tc7, ScPr, ToP, FlP, JmpP).
  No conditions.
-/
import Derived.Test.YtiopamakecmpkaaGreatCkM2
import Derived.Shelf.Small.Bits
import Derived.Shelf.Strconv.Itoa0
import Derived.Shelf.Sort.Plain
import Derived.Shelf.Slices.Turned
import Derived.Ground.Names2Prog
import Derived.Shelf.Slices.Clone
import Derived.Shelf.Slices.CompactS
import Derived.Shelf.Slices.Cells
import Derived.Shelf.Slices.In.SortNone
import Derived.Ground.SlgnProg
import Derived.Shelf.SlicesE.Clone
import Derived.Test.YtiopamakecmpkaaGreatProg
import Derived.Sort.Walk0

set_option linter.unusedSimpArgs false
set_option linter.unusedVariables false

/-! MayEq -/

namespace Go.Abs
theorem Qn {t:aC} (h:isName t=true):t≠ []:=by rintro rfl;cases h
theorem TU (op n:Int) (name:aC) (kids:List Ex):Ex.form ⟨op,n,name,kids⟩=true↔
 mq op=(kids.length:Int)∧(op=1∨n=0)∧0≤n∧(op=2↔name≠ [])∧(name = []∨isName name=true)∧Ex.oP kids=true:=by
 simp only [Ex.form]
 split
 ·rename_i h
  simp only [Bool.or_eq_true,Bool.and_eq_true,bne_iff_ne,ne_eq,decide_eq_true_eq,Bool.not_eq_true']at h
  refine⟨fun h=>(Bool.false_ne_true h).elim,fun⟨h1,h2,h3,h4,h5,_⟩=> ?_⟩
  exfalso
  rcases h with (((h | h) | h) | h) | h
  ·exact h h1
  ·rcases h2 with h2 | h2
   ·exact h.1 h2
   ·exact h.2 h2
  ·omega
  ·by_cases h2:op=2 <;> cases name <;> simp_all
  ·rcases h5 with h5 | h5
   ·subst h5;simp at h
   ·rw [h5]at h;simp at h
 ·rename_i h
  simp only [Bool.or_eq_true,Bool.and_eq_true,bne_iff_ne,ne_eq,decide_eq_true_eq,Bool.not_eq_true',not_or,not_and,Decidable.not_not,Bool.not_eq_false]at h
  obtain⟨⟨⟨⟨h1,h2⟩,h3⟩,h4⟩,h5⟩:=h
  refine⟨fun h=>⟨h1, ?_,by omega, ?_, ?_,h⟩,fun h=>h.2.2.2.2.2⟩
  ·by_cases h:op=1
   ·exact .inl h
   ·exact .inr (h2 h)
  ·by_cases h2:op=2 <;> cases name <;> simp_all
  ·cases name with
   | nil=>exact .inl rfl
   | cons c r=>exact .inr (h5 rfl)
theorem abD (op n:Int) (name:aC) (kids:List Ex) (k:Int):Ex.dp k ⟨op,n,name,kids⟩=true↔
 1≤k∧(kids.length:Int)=mq op∧(if op=1 then 0≤n∧name = []else if op=2 then n=0∧isName name=true else n=0∧name = []∧Ex.Dj (k - 1) kids=true):=by
 simp only [Ex.dp]
 split
 ·rename_i h
  simp only [Bool.or_eq_true,decide_eq_true_eq,bne_iff_ne,ne_eq]at h
  refine⟨fun h=>(Bool.false_ne_true h).elim,fun⟨h1,h2,_⟩=> ?_⟩
  rcases h with h | h
  ·omega
  ·exact(h h2).elim
 rename_i h
 simp only [Bool.or_eq_true,decide_eq_true_eq,bne_iff_ne,ne_eq,not_or,Decidable.not_not]at h
 have h1:1≤k:=by omega
 simp only [h1,h.2,true_and]
 by_cases o1:op=1
 ·subst o1
  cases name <;> simp
 ·have o1' : ¬ (op==1)=true:=by simpa using o1
  rw [if_neg o1',if_neg o1]
  by_cases o2:op=2
  ·subst o2;simp
  ·have o2' : ¬ (op==2)=true:=by simpa using o2
   rw [if_neg o2',if_neg o2]
   by_cases hn:n=0
   ·subst hn
    cases name <;> simp
   ·simp [hn]
mutual
theorem WH : ∀ (x:Ex) (k:Int),0≤k→(x.dp k=true↔(x.depth:Int)≤k∧x.form=true)
 | ⟨op,n,name,kids⟩,k,hk=>by
  rw [abD,TU]
  have hd:Ex.depth ⟨op,n,name,kids⟩=Ex.gM kids+1:=by simp only [Ex.depth]
  rw [hd]
  by_cases h1:1≤k
  ·have ih:=Qo kids (k - 1) (by omega)
   by_cases o1:op=1
   ·subst o1
    have ha:mq 1=0:=rfl
    rw [ha,if_pos rfl]
    constructor
    ·rintro⟨_,h2,h3,h4⟩
     have:kids = []:=List.eq_nil_of_length_eq_zero (by omega)
     subst this;subst h4
     simp [Ex.gM,Ex.oP,h3];omega
    ·rintro⟨h2,h3,_,h4,h5,_⟩
     refine⟨h1,h3.symm,h4, ?_⟩
     cases name
     ·rfl
     ·simp at h5
   ·rw [if_neg o1]
    by_cases o2:op=2
    ·subst o2
     have ha:mq 2=0:=rfl
     rw [ha,if_pos rfl]
     constructor
     ·rintro⟨_,h2,h3,h4⟩
      have:kids = []:=List.eq_nil_of_length_eq_zero (by omega)
      subst this;subst h3
      have:=Qn h4
      simp [Ex.gM,Ex.oP,h4,this];omega
     ·rintro⟨h2,h3,h4,_,h5,h6,_⟩
      refine⟨h1,h3.symm,h4.resolve_left o1, ?_⟩
      exact h6.resolve_left (h5.1 rfl)
    ·rw [if_neg o2,ih]
     constructor
     ·rintro⟨_,h2,h3,h4,h5,h6⟩
      subst h3;subst h4
      exact⟨by omega,h2.symm, .inr rfl,Int.le_refl _,by simp [o2], .inl rfl,h6⟩
     ·rintro⟨h2,h3,h4,_,h5,h6,h7⟩
      refine⟨h1,h3.symm,h4.resolve_left o1, ?_,by omega,h7⟩
      exact Decidable.byContradiction fun h=>o2 (h5.2 h)
  ·constructor
   ·rintro⟨h,_⟩;exact(h1 h).elim
   ·rintro⟨h,_⟩;omega
theorem Qo : ∀ (l:List Ex) (k:Int),0≤k→(Ex.Dj k l=true↔(Ex.gM l:Int)≤k∧Ex.oP l=true)
 | [],k,hk=>by simp [Ex.Dj,Ex.gM,Ex.oP,hk]
 | x::l,k,hk=>by
  have h1:=WH x k hk
  have h2:=Qo l k hk
  have hd:Ex.gM (x::l)=max x.depth (Ex.gM l):=by simp only [Ex.gM]
  rw [hd]
  simp only [Ex.Dj,Ex.oP]
  cases hx:Ex.dp k x
  ·simp only [Bool.not_false, ↓reduceIte,Bool.false_eq_true,false_iff,not_and]
   intro h3
   have : ¬ ((x.depth:Int)≤k∧x.form=true):=by rw [← h1,hx];simp
   have hf:x.form=false:=by
    cases hf:x.form
    ·rfl
    ·exact(this ⟨by omega,hf⟩).elim
   simp [hf]
  ·have:=h1.1 hx
   simp only [Bool.not_true,Bool.false_eq_true, ↓reduceIte,this.2,h2]
   have h3:=this.1
   refine and_congr_left fun _=> ?_
   omega
end
theorem Qp (x:Ex):x.dp 20=x.may:=by
 rw [Bool.eq_iff_iff,WH x 20 (by omega)]
 unfold Ex.may
 simp only [Bool.and_eq_true,decide_eq_true_eq]
 refine and_congr_left fun _=> ?_
 omega
theorem FK (x:Ex) (b:Bool):uQ x b=if b then x.may else x.none:=by
 unfold uQ
 rw [Qp]
 cases b <;> simp
theorem FL (t:aC) (b:Bool):qT t b=if b then isName t else t == []:=by
 unfold qT
 cases b <;> simp
theorem BO : ∀ l:List Ar,oU l=Ar.ep l
 | []=>rfl
 | a::l=>by
  simp only [oU,Ar.ep,Ar.may,FK,FL,BO l]
  grind
theorem ZT {α:Type} (l:List α):((l.length:Int)==0) = !(decide ((l.length:Int) > 0)):=by
 cases l with
 | nil=>rfl
 | cons a l=>
  have h1:(((a::l).length:Int)==0)=false:=by simp only [List.length_cons,beq_eq_false_iff_ne];omega
  have h2:decide (((a::l).length:Int) > 0)=true:=by simp only [List.length_cons,decide_eq_true_eq];omega
  rw [h1,h2];rfl
theorem Du (s:Sm):s.one=(dd s.labels && s.fields):=by
 have hk:s.kind=1∨s.kind=2∨s.kind=3∨s.kind=4∨s.kind=5∨s.kind=6∨s.kind=7∨s.kind=8∨s.kind=9∨s.kind=10∨s.kind<1∨s.kind > 10:=by omega
 unfold Sm.one Sm.fields Sm.flags Sm.yf Sm.hasName Sm.qF
 have p1:isName [] = false:=rfl
 rcases hk with h | h | h | h | h | h | h | h | h | h | h | h
 all_goals
  simp only [h,ZT,BO,FK,FL,Sm.Hf,Sm.He]
  grind
end Go.Abs

/-! MayEq2 -/

namespace Go.Abs
theorem ku : ∀ (a b:List It) (n:Nat),It.ep n (a++b)=(It.ep n a && It.ep (n+a.length) b)
 | [],b,n=>by simp [It.ep]
 | i::a,b,n=>by
  simp only [List.cons_append,It.ep,ku a b (n+1),List.length_cons]
  have:n+1+a.length=n+(a.length+1):=by omega
  rw [this]
  split <;> simp
theorem Dv (n:Nat) (i:It):It.ep n [i] = true↔i.s.id=((n+1:Nat):Int)∧i.deep≤12∧i.s.one=true:=by
 simp only [It.ep]
 split
 ·rename_i h
  simp only [Bool.or_eq_true,bne_iff_ne,ne_eq,decide_eq_true_eq,Bool.not_eq_true']at h
  refine⟨fun h=>(Bool.false_ne_true h).elim,fun⟨h1,h2,h3⟩=> ?_⟩
  rcases h with (h | h) | h
  ·exact(h h1).elim
  ·omega
  ·rw [h]at h3;cases h3
 ·rename_i h
  simp only [Bool.or_eq_true,bne_iff_ne,ne_eq,decide_eq_true_eq,Bool.not_eq_true',not_or,Decidable.not_not,Bool.not_eq_false]at h
  exact⟨fun _=>⟨h.1.1,by omega,h.2⟩,fun _=>rfl⟩
mutual
theorem An (deep bY:Int) (aP:Bool) : ∀ (s:Sm) (out:List It),∃ new,gy deep bY aP out s=out++(⟨s,deep,bY,aP⟩::new)
 | ⟨id,kind,labels,name,proc,x,has,args,aY,e⟩,out=>by
  simp only [gy]
  split
  ·obtain⟨n1,h1⟩:=qh (deep+1) id false aY (out++ [⟨⟨id,kind,labels,name,proc,x,has,args,aY,e⟩,deep,bY,aP⟩])
   obtain⟨n2,h2⟩:=qh (deep+1) id true e (eA (deep+1) id false (out++ [⟨⟨id,kind,labels,name,proc,x,has,args,aY,e⟩,deep,bY,aP⟩]) aY)
   rw [h2,h1]
   exact⟨n1++n2,by simp⟩
  ·exact⟨[],rfl⟩
theorem qh (deep bY:Int) (aP:Bool) : ∀ (l:List Sm) (out:List It),∃ new,eA deep bY aP out l=out++new
 | [],out=>⟨[],by simp [eA]⟩
 | s::l,out=>by
  simp only [eA]
  split
  ·obtain⟨n1,h1⟩:=An deep bY aP s out
   obtain⟨n2,h2⟩:=qh deep bY aP l (gy deep bY aP out s)
   rw [h2,h1]
   exact⟨⟨s,deep,bY,aP⟩::n1++n2,by simp⟩
  ·exact⟨[],by simp⟩
end
theorem FM {nest:Int} {n:Nat} {s:Sm} (h:(Sm.pf nest n s).1=true) :
 n+1≤200∧s.id=((n+1:Nat):Int)∧s.one=true∧(Sm.gx (nest+1) (n+1) s.aY).1=true∧(Sm.gx (nest+1) (Sm.gx (nest+1) (n+1) s.aY).2 s.aP).1=true∧
 (Sm.pf nest n s).2=(Sm.gx (nest+1) (Sm.gx (nest+1) (n+1) s.aY).2 s.aP).2:=by
 rw [EZ]at h ⊢
 split at h
 ·cases h
 rename_i h1
 simp only [Bool.or_eq_true,bne_iff_ne,ne_eq,decide_eq_true_eq,Bool.not_eq_true',not_or,Decidable.not_not,Bool.not_eq_false]at h1
 split at h
 ·cases h
 rename_i h2
 have xg:(Sm.gx (nest+1) (n+1) s.aY).1=true:=by simpa using h2
 refine⟨by omega,h1.1.1.2, ?_,xg,h, ?_⟩
 ·rw [Du,h1.1.2,h1.2];rfl
 ·rw [if_neg (by simp only [Bool.or_eq_true,bne_iff_ne,ne_eq,decide_eq_true_eq,Bool.not_eq_true',not_or,Decidable.not_not,Bool.not_eq_false];exact h1),if_neg h2]
theorem sN {nest:Int} {n:Nat} {l:List Sm} (h:(Sm.gx nest n l).1=true):(l = []∨nest≤12)∧Sm.gx nest n l=Sm.fe nest n l:=by
 unfold Sm.gx gate at *
 split at h
 ·cases h
 ·rename_i hc
  rw [if_neg hc]
  refine⟨?_,rfl⟩
  simp only [Bool.and_eq_true,decide_eq_true_eq,not_and]at hc
  cases l with
  | nil=>exact .inl rfl
  | cons s l=>right;simp only [List.length_cons]at hc;omega
mutual
theorem Qq : ∀ (s:Sm) (nest bY:Int) (aP:Bool) (n:Nat) (out:List It),nest≤12→out.length≤n→n≤200→(Sm.pf nest n s).1=true→
 ∃ new,gy nest bY aP out s=out++new∧It.ep n new=true∧n+new.length=(Sm.pf nest n s).2∧(Sm.pf nest n s).2≤200
 | ⟨id,kind,labels,name,proc,x,has,args,aY,e⟩,nest,bY,aP,n,out,Qr,ho,hn,h=>by
  obtain⟨h1,h2,h3,h4,h5,h6⟩:=FM h
  dsimp only at h2 h4 h5 h6
  rw [h6]
  obtain⟨g1,e1⟩:=sN h4
  rw [e1]at h4 h5 ⊢
  obtain⟨g2,e2⟩:=sN h5
  rw [e2]at h5 ⊢
  have xG:It.ep n [(⟨⟨id,kind,labels,name,proc,x,has,args,aY,e⟩,nest,bY,aP⟩:It)] = true:=(Dv _ _).2 ⟨h2,Qr,h3⟩
  obtain⟨n1,k1,k2,k3,k4⟩:=vK aY (nest+1) id false (n+1) (out++ [⟨⟨id,kind,labels,name,proc,x,has,args,aY,e⟩,nest,bY,aP⟩]) g1 (by simp;omega) h1 h4
  obtain⟨n2,j1,j2,j3,j4⟩:=vK e (nest+1) id true _ (out++ [⟨⟨id,kind,labels,name,proc,x,has,args,aY,e⟩,nest,bY,aP⟩]++n1) g2 (by simp;omega) k4 h5
  simp only [gy]
  rw [if_pos (by simpa using Qr),k1,j1]
  refine⟨⟨⟨id,kind,labels,name,proc,x,has,args,aY,e⟩,nest,bY,aP⟩::(n1++n2),by simp, ?_, ?_,j4⟩
  ·have:(⟨⟨id,kind,labels,name,proc,x,has,args,aY,e⟩,nest,bY,aP⟩:It)::(n1++n2) = [⟨⟨id,kind,labels,name,proc,x,has,args,aY,e⟩,nest,bY,aP⟩]++n1++n2:=by simp
   rw [this,ku,ku,xG,Bool.true_and]
   have e3:n+([(⟨⟨id,kind,labels,name,proc,x,has,args,aY,e⟩,nest,bY,aP⟩:It)]++n1).length=(Sm.fe (nest+1) (n+1) aY).2:=by simp;omega
   rw [e3,j2]
   have e4:n + [(⟨⟨id,kind,labels,name,proc,x,has,args,aY,e⟩,nest,bY,aP⟩:It)].length=n+1:=rfl
   rw [e4,k2];rfl
  ·simp only [List.length_cons,List.length_append];omega
theorem vK : ∀ (l:List Sm) (nest bY:Int) (aP:Bool) (n:Nat) (out:List It),(l = []∨nest≤12)→out.length≤n→n≤200→(Sm.fe nest n l).1=true→
 ∃ new,eA nest bY aP out l=out++new∧It.ep n new=true∧n+new.length=(Sm.fe nest n l).2∧(Sm.fe nest n l).2≤200
 | [],nest,bY,aP,n,out,Qr,ho,hn,h=>⟨[],by simp [eA],rfl,by simp [Sm.fe],by simpa [Sm.fe]using hn⟩
 | s::l,nest,bY,aP,n,out,Qr,ho,hn,h=>by
  have abE:nest≤12:=Qr.resolve_left (by simp)
  simp only [Sm.fe]at h ⊢
  split at h
  ·cases h
  rename_i hc
  rw [if_neg hc]
  obtain⟨n1,k1,k2,k3,k4⟩:=Qq s nest bY aP n out abE ho hn (by simpa using hc)
  obtain⟨n2,j1,j2,j3,j4⟩:=vK l nest bY aP _ (out++n1) (.inr abE) (by simp;omega) k4 h
  simp only [eA]
  rw [if_pos (by simp only [decide_eq_true_eq];omega),k1,j1]
  refine⟨n1++n2,by simp, ?_,by simp;omega,j4⟩
  rw [ku,k2,k3,j2];rfl
end
mutual
theorem Qs : ∀ (s:Sm) (nest bY:Int) (aP:Bool) (n:Nat) (out new:List It),gy nest bY aP out s=out++new→It.ep n new=true→out.length≤n→n+new.length≤200→
 Sm.pf nest n s=(true,n+new.length)∧nest≤12
 | ⟨id,kind,labels,name,proc,x,has,args,aY,e⟩,nest,bY,aP,n,out,new,ly,hm,ho,hn=>by
  obtain⟨n0,h0⟩:=An nest bY aP ⟨id,kind,labels,name,proc,x,has,args,aY,e⟩ out
  have e0:new = ⟨⟨id,kind,labels,name,proc,x,has,args,aY,e⟩,nest,bY,aP⟩::n0:=List.append_cancel_left (ly.symm.trans h0)
  subst e0
  have afs:(⟨⟨id,kind,labels,name,proc,x,has,args,aY,e⟩,nest,bY,aP⟩:It)::n0 = [⟨⟨id,kind,labels,name,proc,x,has,args,aY,e⟩,nest,bY,aP⟩]++n0:=rfl
  rw [afs,ku,Bool.and_eq_true]at hm
  obtain⟨IP,hm2⟩:=hm
  obtain⟨c1,c2,c3⟩:=(Dv _ _).1 IP
  dsimp only at c1 c2 c3
  simp only [List.length_cons]at hn ⊢
  have TV:eA (nest+1) id true (eA (nest+1) id false (out++ [⟨⟨id,kind,labels,name,proc,x,has,args,aY,e⟩,nest,bY,aP⟩]) aY) e=out++([⟨⟨id,kind,labels,name,proc,x,has,args,aY,e⟩,nest,bY,aP⟩]++n0):=by
   simp only [gy]at ly
   rw [if_pos (by simpa using c2)]at ly
   exact ly
  obtain⟨n1,g1⟩:=qh (nest+1) id false aY (out++ [⟨⟨id,kind,labels,name,proc,x,has,args,aY,e⟩,nest,bY,aP⟩])
  obtain⟨n2,g2⟩:=qh (nest+1) id true e (eA (nest+1) id false (out++ [⟨⟨id,kind,labels,name,proc,x,has,args,aY,e⟩,nest,bY,aP⟩]) aY)
  have en:n0=n1++n2:=by
   rw [g2,g1]at TV
   simp only [List.append_assoc,List.append_cancel_left_eq]at TV
   exact TV.symm
  subst en
  have TX:It.ep (n+1) (n1++n2)=true:=hm2
  rw [ku,Bool.and_eq_true]at TX
  simp only [List.length_append]at hn ⊢
  obtain⟨r1,r2⟩:=vL aY (nest+1) id false (n+1) _ n1 g1 TX.1 (by simp;omega) (by omega)
  obtain⟨q1,q2⟩:=vL e (nest+1) id true (n+1+n1.length) _ n2 g2 TX.2 (by rw [g1];simp;omega) (by omega)
  refine⟨?_,c2⟩
  have gg : ∀ {l:List Sm} {m:Nat} {r:Bool×Nat},Sm.fe (nest+1) m l=r→(l = []∨nest+1≤12)→Sm.gx (nest+1) m l=r:=by
   intro l m r h1 h2
   unfold Sm.gx gate
   rw [if_neg]
   ·exact h1
   ·simp only [Bool.and_eq_true,decide_eq_true_eq,not_and]
    rcases h2 with h2 | h2
    ·subst h2;simp
    ·omega
  have t1:=gg r1 r2
  have t2:=gg q1 q2
  rw [EZ]
  dsimp only
  rw [t1]
  dsimp only
  rw [t2]
  rw [Du,Bool.and_eq_true]at c3
  rw [if_neg]
  ·simp;omega
  ·simp only [Bool.or_eq_true,bne_iff_ne,ne_eq,decide_eq_true_eq,Bool.not_eq_true',not_or,Decidable.not_not,Bool.not_eq_false]
   exact⟨⟨⟨by omega,c1⟩,c3.1⟩,c3.2⟩
theorem vL : ∀ (l:List Sm) (nest bY:Int) (aP:Bool) (n:Nat) (out new:List It),eA nest bY aP out l=out++new→It.ep n new=true→out.length≤n→n+new.length≤200→
 Sm.fe nest n l=(true,n+new.length)∧(l = []∨nest≤12)
 | [],nest,bY,aP,n,out,new,ly,hm,ho,hn=>by
  simp only [eA]at ly
  have:new = []:=by simpa using ly
  subst this
  exact⟨by simp [Sm.fe], .inl rfl⟩
 | s::l,nest,bY,aP,n,out,new,ly,hm,ho,hn=>by
  simp only [eA]at ly
  rw [if_pos (by simp only [decide_eq_true_eq];omega)]at ly
  obtain⟨n1,g1⟩:=An nest bY aP s out
  obtain⟨n2,g2⟩:=qh nest bY aP l (gy nest bY aP out s)
  have en:new=(⟨s,nest,bY,aP⟩::n1)++n2:=by
   rw [g2,g1,List.append_assoc,List.append_cancel_left_eq]at ly
   exact ly.symm
  subst en
  rw [ku,Bool.and_eq_true]at hm
  rw [List.length_append]at hn ⊢
  obtain⟨r1,r2⟩:=Qs s nest bY aP n out _ g1 hm.1 ho (by omega)
  obtain⟨q1,q2⟩:=vL l nest bY aP (n+(⟨s,nest,bY,aP⟩::n1:List It).length) _ n2 g2 hm.2 (by rw [g1,List.length_append];omega) (by omega)
  refine⟨?_, .inr r2⟩
  simp only [Sm.fe,r1,Bool.not_true,Bool.false_eq_true, ↓reduceIte,q1]
  congr 1;omega
end
theorem Ao : ∀ (l:List Pc) (out:List It),out.length≤200→(Pc.fe out.length l=true↔Pc.lA l=true∧∃ new,allM out l=out++new∧(out++new).length≤200∧It.ep out.length new=true)
 | [],out,ho=>by simp [Pc.fe,Pc.lA,allM,It.ep];exact ho
 | f::l,out,ho=>by
  have wK : ∀ (l:List Pc) (out:List It),∃ new,allM out l=out++new:=by
   intro l
   induction l with
   | nil=>intro out;exact⟨[],by simp [allM]⟩
   | cons f l ih=>
    intro out
    simp only [allM]
    split
    ·exact⟨_,rfl⟩
    ·obtain⟨n1,h1⟩:=ih (out++f.flat)
     exact⟨f.flat++n1,by rw [h1,List.append_assoc]⟩
  simp only [Pc.fe,Pc.lA]
  have aft:(decide ((f.params.length:Int) > 8) || decide ((f.vars.length:Int) > 16) || !(isName f.name) || !(dd f.vars) || !(dd f.fin))=(!(isName f.name) || decide ((f.params.length:Int) > 8) || decide ((f.vars.length:Int) > 16) || !(dd f.vars) || !(dd f.fin)):=by
   cases isName f.name <;> simp
  rw [aft]
  split
  ·simp
  split
  ·simp
  have hg:Sm.gx 1 out.length f.body=Sm.fe 1 out.length f.body:=by unfold Sm.gx gate;rw [if_neg (by simp)]
  rw [hg]
  constructor
  ·intro h
   split at h
   ·cases h
   rename_i hc
   obtain⟨n1,k1,k2,k3,k4⟩:=vK f.body 1 0 false out.length [] (.inr (by omega)) (by simp) ho (by simpa using hc)
   have ly:f.flat=n1:=by unfold Pc.flat;rw [k1];rfl
   rw [← k3, ← List.length_append]at h
   obtain⟨hh,n2,j1,j2,j3⟩:=(Ao l (out++n1) (by rw [List.length_append];omega)).1 h
   refine⟨hh,n1++n2, ?_,by simpa using j2, ?_⟩
   ·simp only [allM,ly]
    rw [if_neg (by simp only [List.length_append,decide_eq_true_eq];omega),j1,List.append_assoc]
   ·rw [ku,k2, ← List.length_append,j3];rfl
  ·rintro⟨hh,new,j1,j2,j3⟩
   simp only [allM]at j1
   split at j1
   ·rename_i hc
    have:new=f.flat:=(List.append_cancel_left j1).symm
    subst this
    simp only [decide_eq_true_eq]at hc
    omega
   rename_i hc
   simp only [decide_eq_true_eq]at hc
   obtain⟨n2,g2⟩:=wK l (out++f.flat)
   have en:new=f.flat++n2:=by
    rw [g2,List.append_assoc]at j1
    exact(List.append_cancel_left j1).symm
   subst en
   rw [ku,Bool.and_eq_true]at j3
   rw [List.length_append,List.length_append]at j2
   obtain⟨r1,_⟩:=vL f.body 1 0 false out.length [] f.flat (by unfold Pc.flat;rfl) j3.1 (by simp) (by omega)
   rw [r1]
   simp only [Bool.not_true,Bool.false_eq_true, ↓reduceIte]
   rw [← List.length_append]
   exact(Ao l (out++f.flat) (by rw [List.length_append];omega)).2 ⟨hh,n2,g2,by simp;omega,by rw [List.length_append];exact j3.2⟩
theorem E3 (p:Pg):p.E1=p.may:=by
 have h:=Ao p.procs [] (by simp)
 unfold Pg.E1 Pg.may
 split
 ·rfl
 ·have e:Pc.fe 0 p.procs=(if !(Pc.lA p.procs)then false else if decide ((p.all.length:Int) > 200)then false else It.ep 0 p.all):=by
   rw [Bool.eq_iff_iff]
   have h':Pc.fe 0 p.procs=true↔_:=h
   rw [h']
   have ha:p.all=allM [] p.procs:=rfl
   constructor
   ·rintro⟨h1,new,h2,h3,h4⟩
    rw [ha,h2,h1]
    simp only [List.nil_append]at h3 ⊢
    simp only [Bool.not_true,Bool.false_eq_true, ↓reduceIte]
    rw [if_neg (by simp only [decide_eq_true_eq];omega)]
    exact h4
   ·intro h1
    cases hh:Pc.lA p.procs
    ·rw [hh]at h1;simp at h1
    ·rw [hh]at h1
     simp only [Bool.not_true,Bool.false_eq_true, ↓reduceIte]at h1
     split at h1
     ·cases h1
     ·rename_i hc
      simp only [decide_eq_true_eq]at hc
      exact⟨rfl,p.all,by rw [ha];rfl,by simp;omega,h1⟩
  exact e
end Go.Abs

/-! Rng -/

namespace Go.Abs
mutual
def Ex.qU:Ex→Prop
 | ⟨_,n,_,kids⟩=>n≤9223372036854775807∧Ex.wL kids
def Ex.wL:List Ex→Prop
 | []=>True
 | x::l=>x.qU∧Ex.wL l
end
end Go.Abs

/-! FineM -/

namespace Go.Abs
mutual
def Sm.qU:Sm→Prop
 | ⟨_,_,_,_,_,x,_,args,aY,aP⟩=>x.qU∧(∀ a∈args,a.x.qU)∧Sm.wL aY∧Sm.wL aP
def Sm.wL:List Sm→Prop
 | []=>True
 | s::l=>s.qU∧Sm.wL l
end
def Pg.qU (p:Pg):Prop:=∀ f∈p.procs,Sm.wL f.body
theorem FN {f:Pc} : ∀ {l:List Pc} {n:Nat},Pc.fe n l=true→f∈l→(isName f.name=true∧dd f.vars=true∧dd f.fin=true∧Pm.ep f.params=true)∧∃ n,(Sm.gx 1 n f.body).1=true
 | g::l,n,h,m=>by
  simp only [Pc.fe]at h
  split at h
  ·cases h
  rename_i c1
  split at h
  ·cases h
  rename_i c2
  split at h
  ·cases h
  rename_i c3
  simp only [Bool.or_eq_true,Bool.not_eq_true',not_or,Bool.not_eq_false]at c1 c2 c3
  rcases List.mem_cons.1 m with rfl | m
  ·exact⟨⟨c1.1.1.2,c1.1.2,c1.2,c2⟩,n,c3⟩
  ·exact FN h m
mutual
theorem NY : ∀ (s:Sm) (nest:Int) (n:Nat),(Sm.pf nest n s).1=true→s.size<4611686018427387000→s.vI
 | ⟨id,kind,labels,name,proc,x,has,args,aY,aP⟩,nest,n,hm,hs=>by
  obtain⟨_,_,h1,h2,h3,_⟩:=FM hm
  rw [Ck]
  rw [(sN h2).2]at h2
  rw [(sN h3).2]at h3
  refine⟨IN h1 hs,tU aY _ _ h2 ?_,tU aP _ _ h3 ?_⟩ <;> simp only [Sm.size]at hs <;> omega
theorem tU : ∀ (l:List Sm) (nest:Int) (n:Nat),(Sm.fe nest n l).1=true→Sm.aX l<4611686018427387000→Sm.jM l
 | [],_,_,_,_=>by simp only [Sm.jM]
 | s::l,nest,n,hm,hs=>by
  simp only [Sm.fe]at hm
  simp only [Sm.aX]at hs
  split at hm
  ·cases hm
  rename_i hc
  simp only [Bool.not_eq_true',Bool.not_eq_false]at hc
  exact⟨NY s nest n hc (by omega),tU l nest _ hm (by omega)⟩
end
theorem vM {p:Pg} (h:p.may=true) (hs:p.size<4611686018427387000):p.Hg:=by
 have hf:=TT h hs
 rw [← E3]at h
 unfold Pg.E1 at h
 split at h
 ·cases h
 refine⟨hf.sz,hf.yu,hf.lA,fun f m=> ?_⟩
 obtain⟨_,n,e⟩:=FN h m
 rw [(sN e).2]at e
 have:=Pc.bV m
 simp only [Pg.size]at hs
 exact tU f.body 1 n e (by unfold Pc.size at this;omega)
end Go.Abs

/-! Swap2p -/

namespace Go.Abs
def It.swap (a b:aC) (i:It):It:=⟨i.s.swap a b,i.deep,i.bY,i.aP⟩
end Go.Abs

/-! Cnt -/

namespace Go.Abs
mutual
def Sm.fV:Sm→Nat
 | ⟨_,_,_,_,_,_,_,_,aY,aP⟩=>1+Sm.dC aY+Sm.dC aP
def Sm.dC:List Sm→Nat
 | []=>0
 | s::l=>s.fV+Sm.dC l
end
end Go.Abs

/-! MirFlat -/

namespace Go.Abs
structure Im where
 s:Sm
 proc:Int
 up:Int
 next:Int
 loop:Int
mutual
def Im.one (proc up next loop:Int) (out:List Im):Sm→List Im
 | ⟨id,kind,labels,name,pc,x,has,args,aY,aP⟩=>
  Im.rows proc ((out.length:Int)+1) (if kind==6 then(out.length:Int)+1 else next) (if kind==6 then(out.length:Int)+1 else loop)
   (Im.rows proc ((out.length:Int)+1) (if kind==6 then(out.length:Int)+1 else next) (if kind==6 then(out.length:Int)+1 else loop) (out++ [⟨⟨id,kind,labels,name,pc,x,has,args,aY,aP⟩,proc,up,next,loop⟩]) aY) aP
def Im.rows (proc up next loop:Int) (out:List Im):List Sm→List Im
 | []=>out
 | s::l=>Im.rows proc up next loop (Im.one proc up (if l.length=0 then next else(out.length:Int)+1+(s.fV:Int)) loop out s) l
end
theorem Im.abF (proc up next loop:Int) (out:List Im) (s:Sm):Im.one proc up next loop out s =
 Im.rows proc ((out.length:Int)+1) (if s.kind==6 then(out.length:Int)+1 else next) (if s.kind==6 then(out.length:Int)+1 else loop)
  (Im.rows proc ((out.length:Int)+1) (if s.kind==6 then(out.length:Int)+1 else next) (if s.kind==6 then(out.length:Int)+1 else loop) (out++ [⟨s,proc,up,next,loop⟩]) s.aY) s.aP:=by
 cases s;simp only [Im.one]
mutual
theorem Ya (proc up next loop:Int) (out:List Im) : ∀ s:Sm,(Im.one proc up next loop out s).length=out.length+s.fV
 | ⟨id,kind,labels,name,pc,x,has,args,aY,aP⟩=>by
  simp only [Im.one,Sm.fV]
  rw [gI,gI]
  simp only [List.length_append,List.length_cons,List.length_nil];omega
theorem gI (proc up next loop:Int) (out:List Im) : ∀ l:List Sm,(Im.rows proc up next loop out l).length=out.length+Sm.dC l
 | []=>rfl
 | s::l=>by
  simp only [Im.rows,Sm.dC]
  rw [gI,Ya];omega
end
mutual
theorem Cl : ∀ s:Sm,s.fV≤s.size
 | ⟨_,_,labels,_,_,x,_,args,aY,aP⟩=>by
  have:=kC aY;have:=kC aP
  simp only [Sm.fV,Sm.size];omega
theorem kC : ∀ l:List Sm,Sm.dC l≤Sm.aX l
 | []=>Nat.le_refl _
 | s::l=>by
  have:=Cl s;have:=kC l
  simp only [Sm.dC,Sm.aX];omega
end
structure Sh where
 L:List Im
 lo:List Int
 hi:List Int
def Sh.go (i:Nat) (h:Sh):List Pc→Sh
 | []=>h
 | f::l=>Sh.go (i+1) ⟨Im.rows i 0 (-1) 0 h.L f.body,h.lo++ [(h.L.length:Int)+1],h.hi++ [((Im.rows i 0 (-1) 0 h.L f.body).length:Int)+1]⟩ l
def Pg.fx (p:Pg):Sh:=Sh.go 0 ⟨[],[],[]⟩ p.procs
end Go.Abs

/-! Frz -/

namespace Go.Abs
theorem aB.zw {P:Program} {f:Nat} {args:List D} {s0 s:St} {o off n m:Nat} {row:List D} (h:aB P f args s0 (.ptr o off) s) (ho:s.aw[o]? = some row) (hn:s0.aw.length≤n) (hno:n≤o) (hm:s0.aA.length≤m) :
 aB P f args s0 (.dE (D.gw n m row) off) (s.cut n m):=by
 intro M0 w0 fY r0 jR TY ha
 refine(h M0 w0 fY r0 jR TY ha).mono ?_
 rintro en w ⟨M,d,v0,s',rfl,⟨rfl,rfl⟩,e,r,hv⟩
 have wY:=hv.zG
 have rB:v0 = .pointer (some ⟨M.mu o,off,none⟩):=hv.ry.1
 have yw:o<s'.aw.length:=(List.getElem?_eq_some_iff.1 ho).1
 obtain⟨vs,T,hh,dK,⟨ga,_⟩,iU⟩:=r.obj o row ho
 replace hh:w.heap[M.mu o]? = some (.cells vs T (0,0)):=hh.cells wY
 let M':Map:= {M with G:=fun b q=>if b=M.mu o then vs[q]? else M.G b q}
 have hGo : ∀ q,M.G (M.mu o) q=none:=r.ji o yw
 have le:Le M s' M' s':=⟨fun b q v hq=>by
  show(if b=M.mu o then vs[q]? else M.G b q)=some v
  by_cases hb:b=M.mu o
  ·subst hb;rw [hGo]at hq;cases hq
  ·rw [if_neg hb];exact hq,Nat.le_refl _,fun _ _=> .refl _,Nat.le_refl _,fun t n' _ e=>⟨n',e,Nat.le_refl _,fun _=>rfl⟩⟩
 have hF : ∀ q,q<(s'.cut n m).aw.length→q<s'.aw.length∧q≠o:=fun q h=>by rw [jX]at h;omega
 have si:w0.heap.size≤M.mu o:=e.pR o (.inl (by omega)) yw
 have ec:=e.cut hn hm
 have Qt:Le M (s'.cut n m) M' (s'.cut n m):=⟨le.G,Nat.le_refl _,fun _ _=> .refl _,Nat.le_refl _,fun t n' _ e=>⟨n',e,Nat.le_refl _,fun _=>rfl⟩⟩
 have rc:=r.cut n m
 have mc : ∀ b,b≠M.mu o→∀ q,M'.G b q=M.G b q:=fun b hb q=>if_neg hb
 refine⟨M',_,v0,_,rfl,⟨rfl,rfl⟩,⟨ec.le.trans Qt,ec.kept,ec.pR,ec.o7,fun b q eJ=> ?_,ec.size,ec.os,ec.tape,ec.output⟩,⟨fun b q v hq=> ?_,fun q ds hq=> ?_,fun q hq pU=> ?_,rc.inj,fun t n' Fv=> ?_,rc.eW,rc.fR⟩, ?_⟩
 ·by_cases hb:b=M.mu o
  ·subst hb;exact .inl si
  ·rw [mc b hb]at eJ;exact ec.pS b q eJ
 ·have k7:(if b=M.mu o then vs[q]? else M.G b q)=some v:=hq
  by_cases hb:b=M.mu o
  ·rw [if_pos hb]at k7
   rw [hb,iJ hh]
   exact⟨k7,ga v (Array.mem_of_getElem? k7)⟩
  ·rw [if_neg hb]at k7
   exact r.comm b q v k7
 ·obtain⟨fy,T',h3,h4,h5,h6⟩:=rc.obj q ds hq
  exact⟨fy,T',h3,h4,h5,fun i d v e1 e2=>(h6 i d v e1 e2).mono Qt⟩
 ·obtain⟨h3,h4⟩:=hF q hq
  show M'.G (M.mu q) pU=none
  rw [mc _ (fun e=>h4 (r.inj q o h3 yw e))]
  exact r.ji q h3 pU
 ·rcases rc.tok t n' Fv with h3 | ⟨b,cap,z,fy,T',h3,h4,h5,h6,h7⟩
  ·exact .inl h3
  ·refine .inr ⟨b,cap,z,fy,T',h3,h4,h5,h6,fun pU yc=> ?_,h7.2⟩
   rw [mc _ (fun e=>r.eW t b cap z o (ux ⟨n',Fv⟩) h3 yw e.symm)]
   exact h7.1 pU yc
 ·rw [rB]
  have:=RD.dE (M:=M') (s:=s'.cut n m) (D.gw n m row) off (M.mu o) 0 (fun i d e1=> ?_) (fun i d u e1 eu=> ?_)
  ·simpa using this
  ·rw [kQ,List.getElem?_map,Option.map_eq_some_iff]at e1
   obtain⟨d0,e1,rfl⟩:=e1
   have hi:=(List.getElem?_eq_some_iff.1 e1).1
   refine⟨vs[i]'(by omega), ?_⟩
   show(if M.mu o=M.mu o then vs[0+i]? else _)=_
   rw [if_pos rfl,Nat.zero_add]
   exact Array.getElem?_eq_getElem _
  ·rw [kQ,List.getElem?_map,Option.map_eq_some_iff]at e1
   obtain⟨d0,e1,rfl⟩:=e1
   have Dx:(if M.mu o=M.mu o then vs[0+i]? else M.G (M.mu o) (0+i))=some u:=eu
   rw [if_pos rfl,Nat.zero_add]at Dx
   exact((iU i d0 u e1 Dx).fg n m).mono Qt
theorem aB.goK {P:Program} {f:FuncId} {res:List (Nat×Option (Bool×Nat))} {body:AC} {args:List D} {s:St} {d:D} {s':St} {nt:Nat} (n m:Nat) (hn:s.aw.length≤n) (hm:s.aA.length≤m) (h0:Has P f nt res body) (hl:Nat.ble args.length nt=true)
 (h : ∀ (B:fv) (Q:Exit→Tm→St→Prop),B.s=s→iI n m res d s'=Q→gC P B nt body Q (nX 0 args) s):aB P f args s d s':=by
 obtain⟨fn,hf,hc⟩:=h0
 refine dV.Vo (dV.intro (Q:=fun d1 s1=>Wk d1 d∧gU s1.aw s'.aw∧s1.aA=s'.aA) hf hc (Nat.le_of_ble_eq_true hl) fun B hB=>(im (h B _ hB rfl)).mono fun e tm s1 hr=> ?_) fun d1 s1 ⟨h1,h2,h3⟩=>⟨d,s',h1,h2,h3,rfl,rfl⟩
 subst hB
 cases e with
 | normal=>obtain⟨l,h1,h2,h3,h4⟩:=hr;exact⟨l,h1,_,_,hn,hm,h2,h3,h4⟩
 | ret=>obtain⟨l,h1,h2,h3,h4⟩:=hr;exact⟨l,h1,_,_,hn,hm,h2,h3,h4⟩
 | exit id=>exact hr.elim
 | goto l=>exact hr.elim
 | panic ch=>exact hr.elim
 | outgrown=>exact hr.elim
end Go.Abs

/-! Flat1 -/

namespace Go.Abs
set_option maxRecDepth 8000
open Go.Proofs
def ff (i:Im):List D:= [.int .i64 i.s.id, .int .i64 i.s.kind, .slice .shared 1 (i.s.labels.map encStr), .str i.s.name, .str i.s.proc,
 .int .i64 i.s.x.op, .int .i64 i.s.x.n, .str i.s.x.name, .slice .shared 4 (i.s.x.kids.map bu), .bool i.s.has, .slice .shared 6 (i.s.args.map ej), .slice .shared 13 (i.s.aY.map aU), .slice .shared 13 (i.s.aP.map aU), .int .i64 i.proc, .int .i64 i.up, .int .i64 i.next, .int .i64 i.loop]
def lD (n:Int):List D:= [.int .i64 n]
theorem NZ (i:Im):D.bp 0 0 (ff i)=true:=by simp [ff,D.bp,D.ok,Tag.ok,eC,VF,G7,jD]
theorem Hh (l:List Im):D.hO 0 0 (l.map ff)=true:=gV NZ l
theorem WI (n m:Nat) (l:List Im):D.kf n m (l.map ff)=l.map ff:=ml NZ n m l
theorem afu (n m:Nat) (i:Im):D.gw n m (ff i)=ff i:=ib n m _ (NZ i)
theorem afv (x:Im):(ff x).length=17:=nd rfl
theorem Yb (x:Im):List.take 17 (ff x)=ff x:=nd rfl
theorem abI (x:Im):List.drop 17 (ff x) = []:=nd rfl
theorem abJ (x:Im):List.take 13 (ff x)=aU x.s:=by simp only [ff,cH];rfl
theorem T1 (x:Im):(ff x)[0]? = some (.int .i64 x.s.id):=nd rfl
theorem T2 (x:Im):(ff x)[1]? = some (.int .i64 x.s.kind):=nd rfl
theorem T3 (x:Im):(ff x)[4]? = some (.str x.s.proc):=nd rfl
theorem Qu (x:Im):(ff x)[13]? = some (.int .i64 x.proc):=nd rfl
theorem Qv (x:Im):(ff x)[14]? = some (.int .i64 x.up):=nd rfl
theorem Qw (x:Im):(ff x)[15]? = some (.int .i64 x.next):=nd rfl
theorem Qx (x:Im):(ff x)[16]? = some (.int .i64 x.loop):=nd rfl
theorem N0 (s:Sm) (a b c d:Int):ff ⟨s,a,b,c,d⟩ = [.int .i64 s.id, .int .i64 s.kind, .slice .shared 1 (s.labels.map encStr), .str s.name, .str s.proc,
 .int .i64 s.x.op, .int .i64 s.x.n, .str s.x.name, .slice .shared 4 (s.x.kids.map bu), .bool s.has, .slice .shared 6 (s.args.map ej), .slice .shared 13 (s.aY.map aU), .slice .shared 13 (s.aP.map aU), .int .i64 a, .int .i64 b, .int .i64 c, .int .i64 d]:=nd rfl
theorem WJ (n:Int):D.bp 0 0 (lD n)=true:=rfl
theorem Ap (l:List Int):D.hO 0 0 (l.map lD)=true:=gV WJ l
theorem Qy (n m:Nat) (l:List Int):D.kf n m (l.map lD)=l.map lD:=ml WJ n m l
attribute [go_sem] WI afu afv Yb abI abJ T1 T2 T3 Qu Qv Qw Qx Qy lD
theorem abK : ∀ n,n<1000000000→∀ v:Sm,v.size≤n→aB Tryz.prog lP [.agg (aU v)] S0 (.int .i64 (v.fV:Int)) S0:=by
 intro n
 induction n with
 | zero=>intro _ v h;obtain⟨_,_,_,_,_,_,_,_,_,_⟩:=v;simp only [Sm.size]at h;omega
 | succ n ih=>
 intro hn v hv
 have dK:Sm.aX v.aY≤n∧Sm.aX v.aP≤n∧v.fV=1+Sm.dC v.aY+Sm.dC v.aP:=by
  obtain⟨_,_,_,_,_,_,_,_,_,_⟩:=v
  simp only [Sm.size]at hv;exact⟨by dsimp only;omega,by dsimp only;omega,rfl⟩
 obtain⟨h1,h2,h3⟩:=dK
 have c1:=kC v.aY
 have c2:=kC v.aP
 have l1:=Sm.cP v.aY
 have l2:=Sm.cP v.aP
 have hk : ∀ y,y∈v.aY∨y∈v.aP→∀ s,aB Tryz.prog lP [.agg (aU y)] s (.int .i64 (y.fV:Int)) s:=fun y hy s=>
  (ih (by omega) y (by rcases hy with hy | hy <;> (have:=Sm.bV hy;omega))).pure (by simp only [D.bp,D.ok,jZ];rfl) rfl s
 rw [h3]
 unfold S0
 refine aB.go GO rfl fun B Q hB hQ=> ?_
 have⟨hF,hP,hZ,gA⟩:=bH
 repeat' (first
 | simp only [go_sem,hF,hP,hZ,gA]
 | (with_reducible refine aG hQ ?_;simp only [ay,az,Option.some.injEq,exists_eq_left',go_sem,hF,hP,hZ,gA];repeat' (first | exact Ok.out | with_reducible refine aI ?_ ?_ | (simp;done))))
 refine cU 1 0 (bk.ind (ι:=List Sm×Nat×Nat) (fun i=>v.aY.drop i.2.1=i.1∧i.2.2+Sm.dC i.1=1+Sm.dC v.aY) (fun i=>i.1.length)
  (fun i=> [(1, .ptr 0 0),(3, .int .i64 (i.2.2:Int)),(9, .slice .shared 13 (v.aY.map aU)),(10, .int .i64 (v.aY.length:Int)),(11, .int .i64 (i.2.1:Int))]) (fun i=>⟨[aU v],[]⟩) ?_ (v.aY,0,1) ⟨rfl,rfl⟩)
 rintro⟨rest,k,c⟩ ⟨g1,g2⟩ IH
 dsimp only at g1 g2
 cases rest with
 | cons y rest=>
  obtain⟨hP,g3,hF,g4⟩:=drop_cons g1
  have hy:=hk y (.inl (List.mem_of_getElem? hP))
  simp only [Sm.dC]at g2
  have FO:=Cl y
  have CJ:=Sm.bV (List.mem_of_getElem? hP)
  have w1:IntKind.wrap .i64 ((k:Int)+1)=((k+1:Nat):Int):=by rw [c6] <;> omega
  have w2:IntKind.wrap .i64 ((c:Int)+(y.fV:Int))=((c+y.fV:Nat):Int):=by rw [c6] <;> omega
  repeat' (first
 | simp only [go_sem,hF,hP,hZ,gA,w1,w2]
 | (with_reducible refine CU (hy _) ?_)
 | (with_reducible refine aG hQ ?_;simp only [ay,az,Option.some.injEq,exists_eq_left',go_sem,hF,hP,hZ,gA];repeat' (first | exact Ok.out | with_reducible refine aI ?_ ?_ | (simp;done))))
  refine cU 1 0 (IH (rest,k+1,c+y.fV) ⟨g3,by dsimp only;omega⟩ (Nat.lt_succ_self _))
 | nil=>
  have hF:=drop_nil g1
  simp only [Sm.dC,Nat.add_zero]at g2
  subst g2
  repeat' (first
 | simp only [go_sem,hF,hP,hZ,gA]
 | (with_reducible refine aG hQ ?_;simp only [ay,az,Option.some.injEq,exists_eq_left',go_sem,hF,hP,hZ,gA];repeat' (first | exact Ok.out | with_reducible refine aI ?_ ?_ | (simp;done))))
  refine cU 1 0 (bk.ind (ι:=List Sm×Nat×Nat) (fun i=>v.aP.drop i.2.1=i.1∧i.2.2+Sm.dC i.1=1+Sm.dC v.aY+Sm.dC v.aP) (fun i=>i.1.length)
   (fun i=> [(1, .ptr 0 0),(3, .int .i64 (i.2.2:Int)),(21, .slice .shared 13 (v.aP.map aU)),(22, .int .i64 (v.aP.length:Int)),(23, .int .i64 (i.2.1:Int))]) (fun i=>⟨[aU v],[]⟩) ?_ (v.aP,0,1+Sm.dC v.aY) ⟨rfl,rfl⟩)
  rintro⟨rest,k,c⟩ ⟨g1,g2⟩ IH
  dsimp only at g1 g2
  cases rest with
  | cons y rest=>
   obtain⟨hP,g3,hF,g4⟩:=drop_cons g1
   have hy:=hk y (.inr (List.mem_of_getElem? hP))
   simp only [Sm.dC]at g2
   have FO:=Cl y
   have CJ:=Sm.bV (List.mem_of_getElem? hP)
   have w1:IntKind.wrap .i64 ((k:Int)+1)=((k+1:Nat):Int):=by rw [c6] <;> omega
   have w2:IntKind.wrap .i64 ((c:Int)+(y.fV:Int))=((c+y.fV:Nat):Int):=by rw [c6] <;> omega
   repeat' (first
 | simp only [go_sem,hF,hP,hZ,gA,w1,w2]
 | (with_reducible refine CU (hy _) ?_)
 | (with_reducible refine aG hQ ?_;simp only [ay,az,Option.some.injEq,exists_eq_left',go_sem,hF,hP,hZ,gA];repeat' (first | exact Ok.out | with_reducible refine aI ?_ ?_ | (simp;done))))
   refine cU 1 0 (IH (rest,k+1,c+y.fV) ⟨g3,by dsimp only;omega⟩ (Nat.lt_succ_self _))
  | nil=>
   have hF:=drop_nil g1
   simp only [Sm.dC,Nat.add_zero]at g2
   subst g2
   repeat' (first
 | simp only [go_sem,hF,hP,hZ,gA]
 | (with_reducible refine aG hQ ?_;simp only [ay,az,Option.some.injEq,exists_eq_left',go_sem,hF,hP,hZ,gA];repeat' (first | exact Ok.out | with_reducible refine aI ?_ ?_ | (simp;done))))
theorem abL {v:Sm} (h:v.size<1000000000) (s:St):aB Tryz.prog lP [.agg (aU v)] s (.int .i64 (v.fV:Int)) s:=
 (abK v.size h v (Nat.le_refl _)).pure (by simp only [D.bp,D.ok,jZ];rfl) rfl s
end Go.Abs

/-! Flat2 -/

namespace Go.Abs
set_option maxRecDepth 8000
open Go.Proofs
abbrev iD (g ps:D) (L:List Im) (lo hi:List Int):List D:= [g,ps, .slice (.tok 0) 17 (L.map ff), .slice (.tok 1) 1 (lo.map lD), .slice (.tok 2) 1 (hi.map lD)]
abbrev T4 (proc up next loop:Int):List D:= [.int .i64 0, .int .i64 0, .slice .full 0 [], .str [], .str [], .int .i64 0, .int .i64 0, .str [], .slice .full 0 [], .bool false, .slice .full 0 [], .slice .full 0 [], .slice .full 0 [], .int .i64 proc, .int .i64 up, .int .i64 next, .int .i64 loop]
theorem aB.afw {P:Program} {f:Nat} {args:List D} {g ps:D} {L L':List Im} {lo hi Fs gZ:List Int} {a b c a' b' c':Option Nat}
 (h:aB P f (.ptr 0 0::args) ⟨[iD g ps L lo hi],[a,b,c]⟩ (.tuple []) ⟨[iD g ps L' Fs gZ],[a',b',c']⟩)
 (ha:D.bp 0 0 args=true) (hg:D.ok 0 0 g=true) (hp:D.ok 0 0 ps=true)
 {s:St} {o:Nat} (ho:s.aw[o]? = some (iD g ps L lo hi)) (ht:s.aA = [a,b,c]):aB P f (.ptr o 0::args) s (.tuple []) ⟨s.aw.set o (iD g ps L' Fs gZ),[a',b',c']⟩:=by
 have hr : ∀ (L:List Im) (lo hi:List Int),D.dW [o] [0,1,2] (iD g ps L lo hi)=iD g ps L lo hi:=fun L lo hi=>by
  simp [D.dW,D.cb,Tag.cb,rE _ _ _ hg,rE _ _ _ hp,iL _ _ _ (Hh L),iL _ _ _ (Ap lo),iL _ _ _ (Ap hi)]
 have hk : ∀ (L:List Im) (lo hi:List Int),D.bp 1 3 (iD g ps L lo hi)=true:=fun L lo hi=>by
  simp [D.bp,D.ok,Tag.ok,Er (Nat.zero_le 1) (Nat.zero_le 3) _ hg,Er (Nat.zero_le 1) (Nat.zero_le 3) _ hp,lM (Nat.zero_le 1) (Nat.zero_le 3) _ (Hh L),lM (Nat.zero_le 1) (Nat.zero_le 3) _ (Ap lo),lM (Nat.zero_le 1) (Nat.zero_le 3) _ (Ap hi)]
 refine dV.frame [o] [0,1,2] h (by simp) (by decide) (by simpa using (List.getElem?_eq_some_iff.1 ho).1) (by rw [ht];simp) rfl (fun i o' ds e1 e2=> ?_) rfl (fun i t' e1=> ?_)
  (by simp [D.dW,D.cb,eY _ _ _ ha])
  (by simp [D.bp,D.ok,gS (Nat.zero_le 1) (Nat.zero_le 3) _ ha]) ?_
 ·cases i with
  | zero=>simp only [List.getElem?_cons_zero,Option.some.injEq]at e1 e2;subst e1;subst e2;exact⟨by rw [hr];exact ho,hk L lo hi⟩
  | succ i=>simp at e1
 ·rw [ht]
  match i,e1 with
  | 0,e1=>simp at e1;subst e1;rfl
  | 1,e1=>simp at e1;subst e1;rfl
  | 2,e1=>simp at e1;subst e1;rfl
  | i+3,e1=>simp at e1
 ·rintro _ _ ⟨rfl,rfl⟩
  refine⟨by simp [D.back,D.cb,D.dW], ?_⟩
  have:=hr L' Fs gZ
  simp [St.back,jG,jf,this,ht]
abbrev WK (N:Nat):Prop:=∀ (l:List Sm) (proc up next loop:Int) (out:List Im) (g ps:D) (lo hi:List Int) (b c:Option Nat),Sm.aX l<N→out.length+Sm.dC l<1000000000→D.ok 0 0 g=true→D.ok 0 0 ps=true→
 ∀ {s:St} {o:Nat},s.aw[o]? = some (iD g ps out lo hi)→s.aA = [some out.length,b,c]→
 aB Tryz.prog jw [.ptr o 0, .slice .shared 13 (l.map aU), .agg (T4 proc up next loop)] s (.tuple []) ⟨s.aw.set o (iD g ps (Im.rows proc up next loop out l) lo hi),[some (Im.rows proc up next loop out l).length,b,c]⟩
theorem afx {N:Nat} (ih:WK N) {l:List Sm} {proc up next loop:Int} {out:List Im} {g ps:D} {lo hi:List Int} {b c:Option Nat} (hs:Sm.aX l<N+1) (hc:out.length+Sm.dC l<1000000000) (hg:D.ok 0 0 g=true) (hp:D.ok 0 0 ps=true) (hN:N<1000000000) :
 aB Tryz.prog jw [.ptr 0 0, .slice .shared 13 (l.map aU), .agg (T4 proc up next loop)] ⟨[iD g ps out lo hi],[some out.length,b,c]⟩ (.tuple []) ⟨[iD g ps (Im.rows proc up next loop out l) lo hi],[some (Im.rows proc up next loop out l).length,b,c]⟩:=by
 obtain⟨R,hR⟩ : ∃ R,R=Im.rows proc up next loop out l:=⟨_,rfl⟩
 have hlR:R.length=out.length+Sm.dC l:=by rw [hR,gI]
 rw [← hR]
 have k1 : ∀ n m,D.fg n m g=g:=fun n m=>Nr n m _ hg
 have k2 : ∀ n m,D.fg n m ps=ps:=fun n m=>Nr n m _ hp
 refine aB.go Aj rfl fun B Q hB hQ=> ?_
 have⟨hF,hP,hZ,gA⟩:=bH
 repeat' (first
 | simp only [go_sem,hF,hP,hZ,gA,k1,k2]
 | (with_reducible first | refine bw fun hc=> ?_ | refine bx fun hc=> ?_ | refine bA (fun hc=> ?_) fun hc=> ?_) <;> (try simp only [hc,bs, ↓reduceIte]at h) <;> try simp only [hc]
 | (with_reducible refine aG hQ ?_;simp only [ay,az,bF,bG,go_sem,hF,hP,hZ,gA,k1,k2];repeat' (first | exact Ok.out | with_reducible refine aI ?_ ?_ | (simp;done))))
 refine dZ 2 3 ?_ ?_ (bk.ind (ι:=List Sm×Nat×List Im) (fun i=>l.drop i.2.1=i.1∧Im.rows proc up next loop i.2.2 i.1=R∧i.2.2.length+Sm.dC i.1=out.length+Sm.dC l) (fun i=>i.1.length)
  (fun i=> [(0, .ptr 0 0),(1, .slice .shared 13 (l.map aU)),(5, .ptr 1 0),(11, .slice .shared 13 (l.map aU)),(12, .int .i64 (l.length:Int)),(13, .int .i64 (i.2.1:Int))]) (fun i=>⟨[iD g ps i.2.2 lo hi,T4 proc up next loop],[some i.2.2.length,b,c]⟩) ?_ (l,0,out) ⟨rfl,hR.symm,rfl⟩)
 ·(simp only [go_sem,hF,hP,hZ,gA,k1,k2];try exact bO)
 ·(simp only [go_sem,hF,hP,hZ,gA,k1,k2];try exact bO)
 rintro⟨rest,k,cu⟩ ⟨h1,h2,h3⟩ IH
 dsimp only at h1 h2 h3
 have hlen:l.length<1000000000:=by have:=Sm.cP l;omega
 cases rest with
 | nil=>
  have hF:=drop_nil h1
  simp only [Im.rows]at h2
  subst h2
  repeat' (first
 | simp only [go_sem,hF,hP,hZ,gA,k1,k2]
 | (with_reducible first | refine bw fun hc=> ?_ | refine bx fun hc=> ?_ | refine bA (fun hc=> ?_) fun hc=> ?_) <;> (try simp only [hc,bs, ↓reduceIte]at h) <;> try simp only [hc]
 | (with_reducible refine aG hQ ?_;simp only [ay,az,bF,bG,go_sem,hF,hP,hZ,gA,k1,k2];repeat' (first | exact Ok.out | with_reducible refine aI ?_ ?_ | (simp;done))))
 | cons v rest=>
  obtain⟨hP,g2,hF,g4⟩:=drop_cons h1
  have cv:k<4611686018427387904:=by omega
  have hv:=Sm.bV (List.mem_of_getElem? hP)
  have sy:Sm.aX v.aY<N∧Sm.aX v.aP<N∧v.fV=1+Sm.dC v.aY+Sm.dC v.aP:=by
   obtain⟨_,_,_,_,_,_,_,_,_,_⟩:=v
   simp only [Sm.size]at hv
   exact⟨by dsimp only;omega,by dsimp only;omega,rfl⟩
  obtain⟨CQ,HJ,hv3⟩:=sy
  simp only [Sm.dC]at h3
  simp only [Im.rows,Im.abF]at h2
  have hZ:(cu.length+1)*241≤bm:=by unfold bm;omega
  have KS:IntKind.wrap .i64 ((cu.length:Int)+1)=(cu.length:Int)+1:=c6 (by omega) (by omega)
  have vN:IntKind.wrap .i64 ((k:Int)+1)=((k+1:Nat):Int):=by rw [c6] <;> omega
  have WL:IntKind.wrap .i64 ((cu.length:Int)+1+(v.fV:Int))=(cu.length:Int)+1+(v.fV:Int):=c6 (by omega) (by omega)
  have dK:=fun s=>abL (v:=v) (by omega) s
  simp only [cH]at dK
  have Kx:rest.length=l.length - (k+1):=by rw [← g2,List.length_drop]
  by_cases av9:k+1<l.length
  ·have d1:decide (((k+1:Nat):Int)<(l.length:Int))=true:=by simp;omega
   have e1:(rest.length=0)=False:=by simp;intro h;rw [h]at Kx;simp at Kx;omega
   by_cases Qz:v.kind=6
   ·have d2:(v.kind==6)=true:=by simp [Qz]
    simp only [e1,d2, ↓reduceIte,Bool.false_eq_true]at h2
    have f1:=fun {s:St} {o:Nat}=>@ih v.aY proc ((cu.length:Int)+1) ((cu.length:Int)+1) ((cu.length:Int)+1) (cu++ [⟨v,proc,up,((cu.length:Int)+1+(v.fV:Int)),loop⟩]) g ps lo hi b c CQ (by simp;omega) hg hp s o
    have f2:=fun {s:St} {o:Nat}=>@ih v.aP proc ((cu.length:Int)+1) ((cu.length:Int)+1) ((cu.length:Int)+1) _ g ps lo hi b c HJ (by rw [gI proc ((cu.length:Int)+1) ((cu.length:Int)+1) ((cu.length:Int)+1) (cu++ [⟨v,proc,up,((cu.length:Int)+1+(v.fV:Int)),loop⟩]) v.aY];simp;omega) hg hp s o
    have hl:(Im.rows proc ((cu.length:Int)+1) ((cu.length:Int)+1) ((cu.length:Int)+1) (Im.rows proc ((cu.length:Int)+1) ((cu.length:Int)+1) ((cu.length:Int)+1) (cu++ [⟨v,proc,up,((cu.length:Int)+1+(v.fV:Int)),loop⟩]) v.aY) v.aP).length=cu.length+v.fV:=by rw [gI,gI];simp;omega
    simp only [iD,List.map_append,List.map_cons,List.map_nil,N0,List.length_append,List.length_cons,List.length_nil]at f1
    repeat' (first
 | simp only [go_sem,hF,hP,hZ,gA,k1,k2,KS,vN,WL,d1,d2,cH]
 | (with_reducible refine CU (dK _) ?_)
 | (with_reducible refine CU (f1 (by with_unfolding_all rfl) (by with_unfolding_all rfl)) ?_)
 | (with_reducible refine CU (f2 (by with_unfolding_all rfl) (by with_unfolding_all rfl)) ?_)
 | (with_reducible refine aG hQ ?_;simp only [ay,az,bF,bG,go_sem,hF,hP,hZ,gA];repeat' (first | exact Ok.out | with_reducible refine aI ?_ ?_ | (simp;done))))
    refine dZ 2 3 ?_ ?_ (IH (rest,k+1,_) ⟨g2,h2,by dsimp only;rw [hl];omega⟩ (Nat.lt_succ_self _))
    ·(simp only [go_sem,hF,hP,hZ,gA,vN,k1,k2];try exact bO)
    ·(simp only [go_sem,hF,hP,hZ,gA,vN,k1,k2];try exact bO)
   ·have d2:(v.kind==6)=false:=by simp [Qz]
    simp only [e1,d2, ↓reduceIte,Bool.false_eq_true]at h2
    have f1:=fun {s:St} {o:Nat}=>@ih v.aY proc ((cu.length:Int)+1) ((cu.length:Int)+1+(v.fV:Int)) loop (cu++ [⟨v,proc,up,((cu.length:Int)+1+(v.fV:Int)),loop⟩]) g ps lo hi b c CQ (by simp;omega) hg hp s o
    have f2:=fun {s:St} {o:Nat}=>@ih v.aP proc ((cu.length:Int)+1) ((cu.length:Int)+1+(v.fV:Int)) loop _ g ps lo hi b c HJ (by rw [gI proc ((cu.length:Int)+1) ((cu.length:Int)+1+(v.fV:Int)) loop (cu++ [⟨v,proc,up,((cu.length:Int)+1+(v.fV:Int)),loop⟩]) v.aY];simp;omega) hg hp s o
    have hl:(Im.rows proc ((cu.length:Int)+1) ((cu.length:Int)+1+(v.fV:Int)) loop (Im.rows proc ((cu.length:Int)+1) ((cu.length:Int)+1+(v.fV:Int)) loop (cu++ [⟨v,proc,up,((cu.length:Int)+1+(v.fV:Int)),loop⟩]) v.aY) v.aP).length=cu.length+v.fV:=by rw [gI,gI];simp;omega
    simp only [iD,List.map_append,List.map_cons,List.map_nil,N0,List.length_append,List.length_cons,List.length_nil]at f1
    repeat' (first
 | simp only [go_sem,hF,hP,hZ,gA,k1,k2,KS,vN,WL,d1,d2,cH]
 | (with_reducible refine CU (dK _) ?_)
 | (with_reducible refine CU (f1 (by with_unfolding_all rfl) (by with_unfolding_all rfl)) ?_)
 | (with_reducible refine CU (f2 (by with_unfolding_all rfl) (by with_unfolding_all rfl)) ?_)
 | (with_reducible refine aG hQ ?_;simp only [ay,az,bF,bG,go_sem,hF,hP,hZ,gA];repeat' (first | exact Ok.out | with_reducible refine aI ?_ ?_ | (simp;done))))
    refine dZ 2 3 ?_ ?_ (IH (rest,k+1,_) ⟨g2,h2,by dsimp only;rw [hl];omega⟩ (Nat.lt_succ_self _))
    ·(simp only [go_sem,hF,hP,hZ,gA,vN,k1,k2];try exact bO)
    ·(simp only [go_sem,hF,hP,hZ,gA,vN,k1,k2];try exact bO)
  ·have d1:decide (((k+1:Nat):Int)<(l.length:Int))=false:=by simp;omega
   have e1:(rest.length=0)=True:=by simp only [eq_iff_iff,iff_true];omega
   by_cases Qz:v.kind=6
   ·have d2:(v.kind==6)=true:=by simp [Qz]
    simp only [e1,d2, ↓reduceIte,Bool.false_eq_true]at h2
    have f1:=fun {s:St} {o:Nat}=>@ih v.aY proc ((cu.length:Int)+1) ((cu.length:Int)+1) ((cu.length:Int)+1) (cu++ [⟨v,proc,up,next,loop⟩]) g ps lo hi b c CQ (by simp;omega) hg hp s o
    have f2:=fun {s:St} {o:Nat}=>@ih v.aP proc ((cu.length:Int)+1) ((cu.length:Int)+1) ((cu.length:Int)+1) _ g ps lo hi b c HJ (by rw [gI proc ((cu.length:Int)+1) ((cu.length:Int)+1) ((cu.length:Int)+1) (cu++ [⟨v,proc,up,next,loop⟩]) v.aY];simp;omega) hg hp s o
    have hl:(Im.rows proc ((cu.length:Int)+1) ((cu.length:Int)+1) ((cu.length:Int)+1) (Im.rows proc ((cu.length:Int)+1) ((cu.length:Int)+1) ((cu.length:Int)+1) (cu++ [⟨v,proc,up,next,loop⟩]) v.aY) v.aP).length=cu.length+v.fV:=by rw [gI,gI];simp;omega
    simp only [iD,List.map_append,List.map_cons,List.map_nil,N0,List.length_append,List.length_cons,List.length_nil]at f1
    repeat' (first
 | simp only [go_sem,hF,hP,hZ,gA,k1,k2,KS,vN,WL,d1,d2,cH]
 | (with_reducible refine CU (dK _) ?_)
 | (with_reducible refine CU (f1 (by with_unfolding_all rfl) (by with_unfolding_all rfl)) ?_)
 | (with_reducible refine CU (f2 (by with_unfolding_all rfl) (by with_unfolding_all rfl)) ?_)
 | (with_reducible refine aG hQ ?_;simp only [ay,az,bF,bG,go_sem,hF,hP,hZ,gA];repeat' (first | exact Ok.out | with_reducible refine aI ?_ ?_ | (simp;done))))
    refine dZ 2 3 ?_ ?_ (IH (rest,k+1,_) ⟨g2,h2,by dsimp only;rw [hl];omega⟩ (Nat.lt_succ_self _))
    ·(simp only [go_sem,hF,hP,hZ,gA,vN,k1,k2];try exact bO)
    ·(simp only [go_sem,hF,hP,hZ,gA,vN,k1,k2];try exact bO)
   ·have d2:(v.kind==6)=false:=by simp [Qz]
    simp only [e1,d2, ↓reduceIte,Bool.false_eq_true]at h2
    have f1:=fun {s:St} {o:Nat}=>@ih v.aY proc ((cu.length:Int)+1) next loop (cu++ [⟨v,proc,up,next,loop⟩]) g ps lo hi b c CQ (by simp;omega) hg hp s o
    have f2:=fun {s:St} {o:Nat}=>@ih v.aP proc ((cu.length:Int)+1) next loop _ g ps lo hi b c HJ (by rw [gI proc ((cu.length:Int)+1) next loop (cu++ [⟨v,proc,up,next,loop⟩]) v.aY];simp;omega) hg hp s o
    have hl:(Im.rows proc ((cu.length:Int)+1) next loop (Im.rows proc ((cu.length:Int)+1) next loop (cu++ [⟨v,proc,up,next,loop⟩]) v.aY) v.aP).length=cu.length+v.fV:=by rw [gI,gI];simp;omega
    simp only [iD,List.map_append,List.map_cons,List.map_nil,N0,List.length_append,List.length_cons,List.length_nil]at f1
    repeat' (first
 | simp only [go_sem,hF,hP,hZ,gA,k1,k2,KS,vN,WL,d1,d2,cH]
 | (with_reducible refine CU (dK _) ?_)
 | (with_reducible refine CU (f1 (by with_unfolding_all rfl) (by with_unfolding_all rfl)) ?_)
 | (with_reducible refine CU (f2 (by with_unfolding_all rfl) (by with_unfolding_all rfl)) ?_)
 | (with_reducible refine aG hQ ?_;simp only [ay,az,bF,bG,go_sem,hF,hP,hZ,gA];repeat' (first | exact Ok.out | with_reducible refine aI ?_ ?_ | (simp;done))))
    refine dZ 2 3 ?_ ?_ (IH (rest,k+1,_) ⟨g2,h2,by dsimp only;rw [hl];omega⟩ (Nat.lt_succ_self _))
    ·(simp only [go_sem,hF,hP,hZ,gA,vN,k1,k2];try exact bO)
    ·(simp only [go_sem,hF,hP,hZ,gA,vN,k1,k2];try exact bO)
theorem Yc : ∀ N,N<1000000000→WK N:=by
 intro N
 induction N with
 | zero=>exact fun _ l proc up next loop out g ps lo hi b c h=>absurd h (Nat.not_lt_zero _)
 | succ N ih=>
  intro h l proc up next loop out g ps lo hi b c hs hc hg hp s o ho ht
  exact(afx (ih (by omega)) hs hc hg hp (by omega)).afw (by simp [D.bp,D.ok,Tag.ok,jD,D.hO]) hg hp ho ht
end Go.Abs

/-! Flat3 -/

namespace Go.Abs
set_option maxRecDepth 8000
open Go.Proofs
def iu (p:Pg):List D:= [.slice .shared 1 (p.globals.map encStr), .slice .shared 5 (p.procs.map bq), .slice .shared 17 (p.fx.L.map ff), .slice .shared 1 (p.fx.lo.map lD), .slice .shared 1 (p.fx.hi.map lD)]
theorem rM (p:Pg):iu p = [.slice .shared 1 (p.globals.map encStr), .slice .shared 5 (p.procs.map bq), .slice .shared 17 (p.fx.L.map ff), .slice .shared 1 (p.fx.lo.map lD), .slice .shared 1 (p.fx.hi.map lD)]:=nd rfl
theorem yy (p:Pg):D.bp 0 0 (iu p)=true:=by simp [iu,D.bp,D.ok,Tag.ok,eC,vy,Hh,Ap]
theorem QA (p:Pg):bC p = [.slice .shared 1 (p.globals.map encStr), .slice .shared 5 (p.procs.map bq)]:=nd rfl
theorem afy {p:Pg} (hs:Pc.aX p.procs<1000000000):aB Tryz.prog lB [.agg (bC p)] S0 (.ptr 1 0) ⟨[bC p,iD (.slice .shared 1 (p.globals.map encStr)) (.slice .shared 5 (p.procs.map bq)) p.fx.L p.fx.lo p.fx.hi],[some p.fx.L.length,some p.fx.lo.length,some p.fx.hi.length]⟩:=by
 have hlen:p.procs.length<1000000000:=by have:=Pc.cP p.procs;omega
 obtain⟨R,hR⟩ : ∃ R,R=p.fx:=⟨_,rfl⟩
 have hR':=hR
 unfold Pg.fx at hR'
 unfold S0
 rw [QA, ← hR]
 refine aB.goK 2 3 (Nat.zero_le _) (Nat.zero_le _) Iy rfl fun B Q hB hQ=> ?_
 have⟨hF,hP,hZ,gA⟩:=bH
 repeat' (first
 | simp only [go_sem,hF,hP,hZ,gA,QA]
 | (with_reducible refine aG hQ ?_;simp only [ay,az,Option.some.injEq,exists_eq_left',go_sem,hF,hP,hZ,gA];repeat' (first | exact Ok.out | with_reducible refine aI ?_ ?_ | (simp;done))))
 refine bk.qB 1 2 17 rfl rfl ?_
 simp only [go_sem,hF,hP,hZ,gA]
 refine bk.qB 1 3 1 rfl rfl ?_
 simp only [go_sem,hF,hP,hZ,gA]
 refine bk.qB 1 4 1 rfl rfl ?_
 simp only [go_sem,hF,hP,hZ,gA]
 refine dZ 2 3 ?_ ?_ (bk.ind (ι:=List Pc×Nat×Sh×Nat×Nat) (fun i=>p.procs.drop i.2.1=i.1∧Sh.go i.2.1 i.2.2.1 i.1=R∧i.2.2.1.L.length+Pc.aX i.1≤Pc.aX p.procs∧i.2.2.1.lo.length=i.2.1∧i.2.2.1.hi.length=i.2.1∧i.2.2.2.1=i.2.2.1.lo.length∧i.2.2.2.2=i.2.2.1.hi.length) (fun i=>i.1.length)
  (fun i=> [(1, .ptr 0 0),(3, .ptr 1 0),(10, .slice .shared 5 (p.procs.map bq)),(11, .int .i64 (p.procs.length:Int)),(12, .int .i64 (i.2.1:Int))]) (fun i=>⟨[[.slice .shared 1 (p.globals.map encStr), .slice .shared 5 (p.procs.map bq)],iD (.slice .shared 1 (p.globals.map encStr)) (.slice .shared 5 (p.procs.map bq)) i.2.2.1.L i.2.2.1.lo i.2.2.1.hi],[some i.2.2.1.L.length,some i.2.2.2.1,some i.2.2.2.2]⟩) ?_ (p.procs,0,⟨[],[],[]⟩,0,0) ⟨rfl,hR'.symm,by simp,rfl,rfl,rfl,rfl⟩)
 ·(simp only [go_sem,hF,hP,hZ,gA,iD];try exact bO)
 ·(simp only [go_sem,hF,hP,hZ,gA,iD];try exact bO)
 rintro⟨rest,k,h,n1,n2⟩ ⟨h1,h2,h3,h4,h5,h6,h7⟩ IH
 dsimp only at h1 h2 h3 h4 h5 h6 h7
 subst h6 h7
 cases rest with
 | nil=>
  have hF:=drop_nil h1
  simp only [Sh.go]at h2
  rw [← h2]at hQ
  repeat' (first
 | simp only [go_sem,hF,hP,hZ,gA,iD]
 | (with_reducible refine aG hQ ?_;simp only [ay,az,Option.some.injEq,exists_eq_left',go_sem,hF,hP,hZ,gA];repeat' (first | exact Ok.out | with_reducible refine aI ?_ ?_ | (simp;done))))
 | cons f rest=>
  obtain⟨hP,g2,hF,g4⟩:=drop_cons h1
  have cv:k<4611686018427387904:=by omega
  simp only [Pc.aX,Pc.size]at h3
  simp only [Sh.go]at h2
  have c1:=kC f.body
  have hZ:(h.lo.length+1)*9≤bm:=by unfold bm;omega
  have aoo:(h.hi.length+1)*9≤bm:=by unfold bm;omega
  have KS:IntKind.wrap .i64 ((h.L.length:Int)+1)=(h.L.length:Int)+1:=c6 (by omega) (by omega)
  have hl:(Im.rows (k:Int) 0 (-1) 0 h.L f.body).length=h.L.length+Sm.dC f.body:=gI ..
  have vN:IntKind.wrap .i64 (((Im.rows (k:Int) 0 (-1) 0 h.L f.body).length:Int)+1)=((Im.rows (k:Int) 0 (-1) 0 h.L f.body).length:Int)+1:=c6 (by omega) (by omega)
  have hr:=fun {s:St} {o:Nat}=>@Yc (Sm.aX f.body+1) (by omega) f.body (k:Int) 0 (-1) 0 h.L (.slice .shared 1 (p.globals.map encStr)) (.slice .shared 5 (p.procs.map bq)) (h.lo++ [(h.L.length:Int)+1]) h.hi (some (h.lo.length+1)) (some h.hi.length) (Nat.lt_succ_self _) (by omega) (by simp [D.ok,Tag.ok,eC]) (by simp [D.ok,Tag.ok,vy]) s o
  simp only [iD,List.map_append,List.map_cons,List.map_nil,lD]at hr
  repeat' (first
 | simp only [go_sem,hF,hP,hZ,gA,KS,vN,aoo,iD]
 | (with_reducible refine CU (hr (by with_unfolding_all rfl) (by with_unfolding_all rfl)) ?_)
 | (with_reducible refine aG hQ ?_;simp only [ay,az,Option.some.injEq,exists_eq_left',go_sem,hF,hP,hZ,gA];repeat' (first | exact Ok.out | with_reducible refine aI ?_ ?_ | (simp;done))))
  refine dZ 2 3 ?_ ?_ (IH (rest,k+1,⟨Im.rows (k:Int) 0 (-1) 0 h.L f.body,h.lo++ [(h.L.length:Int)+1],h.hi++ [((Im.rows (k:Int) 0 (-1) 0 h.L f.body).length:Int)+1]⟩,_,_) ⟨g2,h2,by dsimp only;rw [hl];omega,by simp [h4],by simp [h5],by simp,by simp⟩ (Nat.lt_succ_self _))
  ·(simp only [go_sem,hF,hP,hZ,gA,iD,aM cv,List.map_append,List.map_cons,List.map_nil,lD];try exact bO)
  ·(simp only [go_sem,hF,hP,hZ,gA,iD,aM cv,List.map_append,List.map_cons,List.map_nil,lD];try exact bO)
theorem Dy {p:Pg} (hs:Pc.aX p.procs<1000000000) (s:St):aB Tryz.prog lB [.agg (bC p)] s (.dE (iu p) 0) s:=by
 refine aB.pure ?_ (by simp only [D.bp,D.ok,gl];rfl) (by simp only [D.ok,yy]) s
 have h:=(afy hs).zw (n:=0) (m:=0) rfl (Nat.le_refl _) (Nat.zero_le _) (Nat.le_refl _)
 simpa [D.gw,D.fg,Tag.fg,Ip,VG,WI,Qy,St.cut,iu,S0]using h
end Go.Abs

/-! Sl1 -/

namespace Go.Abs
set_option maxRecDepth 8000
open Go.Proofs
def nT (x:aC) (k:Int):List aC→Int
 | []=> -1
 | s::l=>if x==s then k else nT x (k+1) l
def er (l:List aC) (x:aC):Bool:=decide (nT x 0 l≥0)
def lU {α:Type} (b:α→Bool) (k:Int):List α→Int
 | []=> -1
 | s::l=>if b s then k else lU b (k+1) l
theorem KT (x:aC) : ∀ (l:List aC) (k:Int),0≤k→(nT x k l≥0↔x∈l)
 | [],k,h=>by simp [nT]
 | s::l,k,h=>by
  by_cases e:x=s
  ·simp [nT,e];omega
  ·have e':(x==s)=false:=by simp [e]
   simp only [nT,e',Bool.false_eq_true,if_false,List.mem_cons,e,false_or]
   exact KT x l (k+1) (by omega)
theorem fW (l:List aC) (x:aC):er l x=true↔x∈l:=by
 simp only [er,decide_eq_true_eq];exact KT x l 0 (Int.le_refl 0)
theorem E4 {α:Type} (b:α→Bool) : ∀ (l:List α) (k:Int),0≤k→(lU b k l≥0↔l.any b=true)
 | [],k,h=>by simp [lU]
 | s::l,k,h=>by
  by_cases e:b s=true
  ·simp [lU,e];omega
  ·have e':b s=false:=by simpa using e
   simp only [lU,e',Bool.false_eq_true,if_false,List.any_cons,Bool.or_eq_true,false_or]
   exact E4 b l (k+1) (by omega)
theorem KU {l:List aC} (hl:l.length<4611686018427387904) (x:aC) (s:St):aB Tryz.prog iN [.slice .shared 1 (l.map encStr), .str x] s (.int .i64 (nT x 0 l)) s:=by
 refine aB.pure ?_ (by simp [D.bp,D.ok,Tag.ok,eC]) rfl s
 generalize h:nT x 0 l=p
 unfold S0
 refine aB.go ve rfl fun B Q hB hQ=> ?_
 have⟨hF,hP,hZ,gA⟩:=bH
 repeat' (first
 | simp only [go_sem,hF,hP,hZ,gA]
 | (with_reducible first | refine bw fun hc=> ?_ | refine bx fun hc=> ?_ | refine bA (fun hc=> ?_) fun hc=> ?_) <;> (try simp only [hc,bs, ↓reduceIte]at h) <;> try simp only [hc]
 | (with_reducible refine aG hQ ?_;(try cases h);simp only [ay,az,bF,bG,go_sem,hF,hP,hZ,gA];repeat' (first | exact Ok.out | with_reducible refine aI ?_ ?_ | (simp;done))))
 refine cU 0 0 (bk.ind (ι:=List aC×Nat) (fun i=>l.drop i.2=i.1∧nT x (i.2:Int) i.1=p) (fun i=>i.1.length)
  (fun i=> [(0, .slice .shared 1 (l.map encStr)),(1, .str x),(7, .int .i64 (l.length:Int)),(8, .int .i64 (i.2:Int))]) (fun i=>⟨[],[]⟩) ?_ (l,0) ⟨rfl,h⟩)
 rintro⟨rest,k⟩ ⟨h1,h⟩ IH
 dsimp only at h1 h
 cases rest with
 | nil=>
  have hF:=drop_nil h1
  simp only [nT]at h
  repeat' (first
 | simp only [go_sem,hF,hP,hZ,gA]
 | (with_reducible first | refine bw fun hc=> ?_ | refine bx fun hc=> ?_ | refine bA (fun hc=> ?_) fun hc=> ?_) <;> (try simp only [hc,bs, ↓reduceIte]at h) <;> try simp only [hc]
 | (with_reducible refine aG hQ ?_;(try cases h);simp only [ay,az,bF,bG,go_sem,hF,hP,hZ,gA];repeat' (first | exact Ok.out | with_reducible refine aI ?_ ?_ | (simp;done))))
 | cons a rest=>
  obtain⟨hP,g2,hF,g4⟩:=drop_cons h1
  have cv:k<4611686018427387904:=by omega
  simp only [nT]at h
  repeat' (first
 | simp only [go_sem,hF,hP,hZ,gA]
 | (with_reducible first | refine bw fun hc=> ?_ | refine bx fun hc=> ?_ | refine bA (fun hc=> ?_) fun hc=> ?_) <;> (try simp only [hc,bs, ↓reduceIte]at h) <;> try simp only [hc]
 | (with_reducible refine aG hQ ?_;(try cases h);simp only [ay,az,bF,bG,go_sem,hF,hP,hZ,gA];repeat' (first | exact Ok.out | with_reducible refine aI ?_ ?_ | (simp;done))))
  refine dZ 0 0 ?_ ?_ (IH (rest,k+1) ⟨g2,h⟩ (Nat.lt_succ_self _))
  ·(simp only [go_sem,hF,hP,hZ,gA,aM cv];try exact bO)
  ·(simp only [go_sem,hF,hP,hZ,gA,aM cv];try exact bO)
theorem qV {l:List aC} (hl:l.length<4611686018427387904) (x:aC) (s:St):aB Tryz.prog b9 [.slice .shared 1 (l.map encStr), .str x] s (.bool (er l x)) s:=by
 refine aB.pure ?_ (by simp [D.bp,D.ok,Tag.ok,eC]) rfl s
 have hi:=fun s=>KU hl x s
 unfold S0
 refine aB.go s8 rfl fun B Q hB hQ=> ?_
 have⟨hF,hP,hZ,gA⟩:=bH
 repeat' (first
 | simp only [go_sem,hF,hP,hZ,gA,er]
 | (with_reducible refine CU (hi _) ?_)
 | (with_reducible first | refine bw fun hc=> ?_ | refine bx fun hc=> ?_ | refine bA (fun hc=> ?_) fun hc=> ?_) <;> (try simp only [hc,bs, ↓reduceIte]at h) <;> try simp only [hc]
 | (with_reducible refine aG hQ ?_;simp only [ay,az,bF,bG,go_sem,hF,hP,hZ,gA,er];repeat' (first | exact Ok.out | with_reducible refine aI ?_ ?_ | (simp;done))))
theorem aB.QB {P:Program} {f:Nat} {d d':D} {r:List D} {s s':St} {x:D} (h:aB P f (d'::r) s x s') (hw:Wk d d'):aB P f (d::r) s x s':=dV.wg (.cons hw (jH.refl r)) h
theorem jb {l:List aC} (hl:l.length<4611686018427387904) (x:aC) (g:Tag) (s:St):aB Tryz.prog b9 [.slice g 1 (l.map encStr), .str x] s (.bool (er l x)) s:=
 (qV hl x s).QB (Wk.shared _ _ _)
theorem IQ (x:aC) (z:Nat) (g:Tag) (s:St):aB Tryz.prog b9 [.slice g z [], .str x] s (.bool false) s:=
 (qV (l:= []) (by simp) x s).QB (Wk.nil _ _ _)
theorem Aq {l:List aC} (hl:l.length<4611686018427387904) {f:Nat} {row:List D} {b:aC→Bool} (tB:D.bp 0 0 row=true) (he:enters Tryz.prog f=true)
 (hb : ∀ x∈l,aB Tryz.prog f ([.str x]++ [.ptr 0 0]) ⟨[row],[]⟩ (.bool (b x)) ⟨[row],[]⟩) :
 aB Tryz.prog kn [.slice .shared 1 (l.map encStr), .gb f [.ptr 0 0]] ⟨[row],[]⟩ (.int .i64 (lU b 0 l)) ⟨[row],[]⟩:=by
 generalize h:lU b 0 l=p
 have k1 : ∀ n m,D.gw n m row=row:=fun n m=>ib n m _ tB
 refine aB.go sK rfl fun B Q hB hQ=> ?_
 have⟨hF,hP,hZ,gA⟩:=bH
 repeat' (first
 | simp only [go_sem,hF,hP,hZ,gA,k1]
 | (with_reducible first | refine bw fun hc=> ?_ | refine bx fun hc=> ?_ | refine bA (fun hc=> ?_) fun hc=> ?_) <;> (try simp only [hc,bs, ↓reduceIte]at h) <;> try simp only [hc]
 | (with_reducible refine aG hQ ?_;(try cases h);simp only [ay,az,bF,bG,go_sem,hF,hP,hZ,gA,k1];repeat' (first | exact Ok.out | with_reducible refine aI ?_ ?_ | (simp;done))))
 refine dZ 1 0 ?_ ?_ (bk.ind (ι:=List aC×Nat) (fun i=>l.drop i.2=i.1∧lU b (i.2:Int) i.1=p) (fun i=>i.1.length)
  (fun i=> [(0, .slice .shared 1 (l.map encStr)),(1, .gb f [.ptr 0 0]),(7, .int .i64 (l.length:Int)),(8, .int .i64 (i.2:Int))]) (fun i=>⟨[row],[]⟩) ?_ (l,0) ⟨rfl,h⟩)
 ·(simp only [go_sem,hF,hP,hZ,gA,k1];try exact bO)
 ·(simp only [go_sem,hF,hP,hZ,gA,k1];try exact bO)
 rintro⟨rest,k⟩ ⟨h1,h⟩ IH
 dsimp only at h1 h
 cases rest with
 | nil=>
  have hF:=drop_nil h1
  simp only [lU]at h
  repeat' (first
 | simp only [go_sem,hF,hP,hZ,gA,k1]
 | (with_reducible first | refine bw fun hc=> ?_ | refine bx fun hc=> ?_ | refine bA (fun hc=> ?_) fun hc=> ?_) <;> (try simp only [hc,bs, ↓reduceIte]at h) <;> try simp only [hc]
 | (with_reducible refine aG hQ ?_;(try cases h);simp only [ay,az,bF,bG,go_sem,hF,hP,hZ,gA,k1];repeat' (first | exact Ok.out | with_reducible refine aI ?_ ?_ | (simp;done))))
 | cons a rest=>
  obtain⟨hP,g2,hF,g4⟩:=drop_cons h1
  have cv:k<4611686018427387904:=by omega
  have hba:=hb a (List.mem_of_getElem? hP)
  simp only [lU]at h
  repeat' (first
 | simp only [go_sem,hF,hP,hZ,gA,k1]
 | (with_reducible refine CV.use (he) (hba) ?_)
 | (with_reducible first | refine bw fun hc=> ?_ | refine bx fun hc=> ?_ | refine bA (fun hc=> ?_) fun hc=> ?_) <;> (try simp only [hc,bs, ↓reduceIte]at h) <;> try simp only [hc]
 | (with_reducible refine aG hQ ?_;(try cases h);simp only [ay,az,bF,bG,go_sem,hF,hP,hZ,gA,k1];repeat' (first | exact Ok.out | with_reducible refine aI ?_ ?_ | (simp;done))))
  refine dZ 1 0 ?_ ?_ (IH (rest,k+1) ⟨g2,h⟩ (Nat.lt_succ_self _))
  ·(simp only [go_sem,hF,hP,hZ,gA,k1,aM cv];try exact bO)
  ·(simp only [go_sem,hF,hP,hZ,gA,k1,aM cv];try exact bO)
theorem As {P:Program} {g f:Nat} {row:List D} {rows:List (List D)} {z:Nat} {d:D} (h:aB P g [.slice .shared z rows, .gb f [.ptr 0 0]] ⟨[row],[]⟩ d ⟨[row],[]⟩) (tB:D.bp 0 0 row=true) (hw:D.hO 0 0 rows=true) (hd:D.ok 0 0 d=true) {s:St} {o:Nat} (ho:s.aw[o]? = some row) :
 aB P g [.slice .shared z rows, .gb f [.ptr o 0]] s d s:=by
 refine dV.frame [o] [] h (by simp) List.nodup_nil (by simpa using (List.getElem?_eq_some_iff.1 ho).1) (by simp) rfl (fun i o' ds e1 e2=> ?_) rfl (by simp) (by simp [D.dW,D.cb,Tag.cb,iL _ _ _ hw])
  (by simp [D.bp,D.ok,Tag.ok,lM (Nat.zero_le 1) (Nat.le_refl 0) _ hw]) ?_
 ·cases i with
  | zero=>simp at e1 e2;subst e1;subst e2;exact⟨by rw [eY _ _ _ tB];exact ho,gS (Nat.zero_le 1) (Nat.le_refl 0) _ tB⟩
  | succ i=>simp at e1
 ·rintro _ _ ⟨rfl,rfl⟩
  refine⟨rE _ _ _ hd, ?_⟩
  have:s.aw.set o row=s.aw:=by
   apply List.ext_getElem?
   intro i
   rw [List.getElem?_set]
   split
   ·rename_i e;subst e;rw [ho];split
    ·rfl
    ·rename_i hh;exact absurd (List.getElem?_eq_some_iff.1 ho).1 hh
   ·rfl
  simp [St.back,jG,eY _ _ _ tB,this]
theorem xI {l:List aC} (hl:l.length<4611686018427387904) {f:Nat} {row:List D} {b:aC→Bool} (tB:D.bp 0 0 row=true) (he:enters Tryz.prog f=true)
 (hb : ∀ x∈l,aB Tryz.prog f ([.str x]++ [.ptr 0 0]) ⟨[row],[]⟩ (.bool (b x)) ⟨[row],[]⟩) :
 aB Tryz.prog fU [.slice .shared 1 (l.map encStr), .gb f [.ptr 0 0]] ⟨[row],[]⟩ (.bool (l.any b)) ⟨[row],[]⟩:=by
 have k1 : ∀ n m,D.gw n m row=row:=fun n m=>ib n m _ tB
 have hi:=Aq hl tB he hb
 have e:decide (lU b 0 l≥0)=l.any b:=by
  have:=E4 b l 0 (Int.le_refl 0)
  cases hh:l.any b <;> simp_all
 refine aB.go qR rfl fun B Q hB hQ=> ?_
 have⟨hF,hP,hZ,gA⟩:=bH
 repeat' (first
 | simp only [go_sem,hF,hP,hZ,gA,k1,e]
 | (with_reducible refine CU (hi) ?_)
 | (with_reducible first | refine bw fun hc=> ?_ | refine bx fun hc=> ?_ | refine bA (fun hc=> ?_) fun hc=> ?_) <;> (try simp only [hc,bs, ↓reduceIte]at h) <;> try simp only [hc]
 | (with_reducible refine aG hQ ?_;simp only [ay,az,bF,bG,go_sem,hF,hP,hZ,gA,k1,e];repeat' (first | exact Ok.out | with_reducible refine aI ?_ ?_ | (simp;done))))
theorem xJ {l:List aC} (hl:l.length<4611686018427387904) {f:Nat} {row:List D} {b:aC→Bool} (tB:D.bp 0 0 row=true) (he:enters Tryz.prog f=true)
 (hb : ∀ x∈l,aB Tryz.prog f ([.str x]++ [.ptr 0 0]) ⟨[row],[]⟩ (.bool (b x)) ⟨[row],[]⟩) {s:St} {o:Nat} (ho:s.aw[o]? = some row) :
 aB Tryz.prog fU [.slice .shared 1 (l.map encStr), .gb f [.ptr o 0]] s (.bool (l.any b)) s:=
 As (xI hl tB he hb) tB (eC l) rfl ho
theorem uS {l:List Pc} (hl:l.length<4611686018427387904) {f:Nat} {row:List D} {b:Pc→Bool} (tB:D.bp 0 0 row=true) (he:enters Tryz.prog f=true)
 (hb : ∀ x∈l,aB Tryz.prog f ([.agg (bq x)]++ [.ptr 0 0]) ⟨[row],[]⟩ (.bool (b x)) ⟨[row],[]⟩) :
 aB Tryz.prog gh [.slice .shared 5 (l.map bq), .gb f [.ptr 0 0]] ⟨[row],[]⟩ (.int .i64 (lU b 0 l)) ⟨[row],[]⟩:=by
 generalize h:lU b 0 l=p
 have k1 : ∀ n m,D.gw n m row=row:=fun n m=>ib n m _ tB
 refine aB.go rf rfl fun B Q hB hQ=> ?_
 have⟨hF,hP,hZ,gA⟩:=bH
 repeat' (first
 | simp only [go_sem,hF,hP,hZ,gA,k1]
 | (with_reducible first | refine bw fun hc=> ?_ | refine bx fun hc=> ?_ | refine bA (fun hc=> ?_) fun hc=> ?_) <;> (try simp only [hc,bs, ↓reduceIte]at h) <;> try simp only [hc]
 | (with_reducible refine aG hQ ?_;(try cases h);simp only [ay,az,bF,bG,go_sem,hF,hP,hZ,gA,k1];repeat' (first | exact Ok.out | with_reducible refine aI ?_ ?_ | (simp;done))))
 refine dZ 1 0 ?_ ?_ (bk.ind (ι:=List Pc×Nat) (fun i=>l.drop i.2=i.1∧lU b (i.2:Int) i.1=p) (fun i=>i.1.length)
  (fun i=> [(0, .slice .shared 5 (l.map bq)),(1, .gb f [.ptr 0 0]),(7, .int .i64 (l.length:Int)),(8, .int .i64 (i.2:Int))]) (fun i=>⟨[row],[]⟩) ?_ (l,0) ⟨rfl,h⟩)
 ·(simp only [go_sem,hF,hP,hZ,gA,k1];try exact bO)
 ·(simp only [go_sem,hF,hP,hZ,gA,k1];try exact bO)
 rintro⟨rest,k⟩ ⟨h1,h⟩ IH
 dsimp only at h1 h
 cases rest with
 | nil=>
  have hF:=drop_nil h1
  simp only [lU]at h
  repeat' (first
 | simp only [go_sem,hF,hP,hZ,gA,k1]
 | (with_reducible first | refine bw fun hc=> ?_ | refine bx fun hc=> ?_ | refine bA (fun hc=> ?_) fun hc=> ?_) <;> (try simp only [hc,bs, ↓reduceIte]at h) <;> try simp only [hc]
 | (with_reducible refine aG hQ ?_;(try cases h);simp only [ay,az,bF,bG,go_sem,hF,hP,hZ,gA,k1];repeat' (first | exact Ok.out | with_reducible refine aI ?_ ?_ | (simp;done))))
 | cons a rest=>
  obtain⟨hP,g2,hF,g4⟩:=drop_cons h1
  have cv:k<4611686018427387904:=by omega
  have hba:=hb a (List.mem_of_getElem? hP)
  simp only [lU]at h
  repeat' (first
 | simp only [go_sem,hF,hP,hZ,gA,k1]
 | (with_reducible refine CV.use (he) (hba) ?_)
 | (with_reducible first | refine bw fun hc=> ?_ | refine bx fun hc=> ?_ | refine bA (fun hc=> ?_) fun hc=> ?_) <;> (try simp only [hc,bs, ↓reduceIte]at h) <;> try simp only [hc]
 | (with_reducible refine aG hQ ?_;(try cases h);simp only [ay,az,bF,bG,go_sem,hF,hP,hZ,gA,k1];repeat' (first | exact Ok.out | with_reducible refine aI ?_ ?_ | (simp;done))))
  refine dZ 1 0 ?_ ?_ (IH (rest,k+1) ⟨g2,h⟩ (Nat.lt_succ_self _))
  ·(simp only [go_sem,hF,hP,hZ,gA,k1,aM cv];try exact bO)
  ·(simp only [go_sem,hF,hP,hZ,gA,k1,aM cv];try exact bO)
theorem zr {l:List Pc} (hl:l.length<4611686018427387904) {f:Nat} {row:List D} {b:Pc→Bool} (tB:D.bp 0 0 row=true) (he:enters Tryz.prog f=true)
 (hb : ∀ x∈l,aB Tryz.prog f ([.agg (bq x)]++ [.ptr 0 0]) ⟨[row],[]⟩ (.bool (b x)) ⟨[row],[]⟩) :
 aB Tryz.prog gO [.slice .shared 5 (l.map bq), .gb f [.ptr 0 0]] ⟨[row],[]⟩ (.bool (l.any b)) ⟨[row],[]⟩:=by
 have k1 : ∀ n m,D.gw n m row=row:=fun n m=>ib n m _ tB
 have hi:=uS hl tB he hb
 have e:decide (lU b 0 l≥0)=l.any b:=by
  have:=E4 b l 0 (Int.le_refl 0)
  cases hh:l.any b <;> simp_all
 refine aB.go p6 rfl fun B Q hB hQ=> ?_
 have⟨hF,hP,hZ,gA⟩:=bH
 repeat' (first
 | simp only [go_sem,hF,hP,hZ,gA,k1,e]
 | (with_reducible refine CU (hi) ?_)
 | (with_reducible first | refine bw fun hc=> ?_ | refine bx fun hc=> ?_ | refine bA (fun hc=> ?_) fun hc=> ?_) <;> (try simp only [hc,bs, ↓reduceIte]at h) <;> try simp only [hc]
 | (with_reducible refine aG hQ ?_;simp only [ay,az,bF,bG,go_sem,hF,hP,hZ,gA,k1,e];repeat' (first | exact Ok.out | with_reducible refine aI ?_ ?_ | (simp;done))))
end Go.Abs

/-! MirFlat2 -/

namespace Go.Abs
mutual
def Sm.pre:Sm→List Sm
 | ⟨id,kind,labels,name,pc,x,has,args,aY,aP⟩=>⟨id,kind,labels,name,pc,x,has,args,aY,aP⟩::(Sm.cW aY++Sm.cW aP)
def Sm.cW:List Sm→List Sm
 | []=> []
 | s::l=>s.pre++Sm.cW l
end
def Pg.pre (p:Pg):List Sm:=(p.procs.map fun f=>Sm.cW f.body).flatten
theorem Sm.xK (s:Sm):s.pre=s::(Sm.cW s.aY++Sm.cW s.aP):=by cases s;simp only [Sm.pre]
mutual
theorem Yd (proc up next loop:Int) (out:List Im) : ∀ s:Sm,∃ e:List Im,Im.one proc up next loop out s=out++e∧e.map Im.s=s.pre
 | ⟨id,kind,labels,name,pc,x,has,args,aY,aP⟩=>by
  simp only [Im.one,Sm.pre]
  obtain⟨e1,h1,k1⟩:=yz proc ((out.length:Int)+1) (if kind==6 then(out.length:Int)+1 else next) (if kind==6 then(out.length:Int)+1 else loop) (out++ [⟨⟨id,kind,labels,name,pc,x,has,args,aY,aP⟩,proc,up,next,loop⟩]) aY
  obtain⟨e2,h2,k2⟩:=yz proc ((out.length:Int)+1) (if kind==6 then(out.length:Int)+1 else next) (if kind==6 then(out.length:Int)+1 else loop) (Im.rows proc ((out.length:Int)+1) (if kind==6 then(out.length:Int)+1 else next) (if kind==6 then(out.length:Int)+1 else loop) (out++ [⟨⟨id,kind,labels,name,pc,x,has,args,aY,aP⟩,proc,up,next,loop⟩]) aY) aP
  refine⟨⟨⟨id,kind,labels,name,pc,x,has,args,aY,aP⟩,proc,up,next,loop⟩::(e1++e2), ?_, ?_⟩
  ·rw [h2,h1];simp
  ·simp [k1,k2]
theorem yz (proc up next loop:Int) (out:List Im) : ∀ l:List Sm,∃ e:List Im,Im.rows proc up next loop out l=out++e∧e.map Im.s=Sm.cW l
 | []=>⟨[],by simp [Im.rows],rfl⟩
 | s::l=>by
  simp only [Im.rows,Sm.cW]
  obtain⟨e1,h1,k1⟩:=Yd proc up (if l.length=0 then next else(out.length:Int)+1+(s.fV:Int)) loop out s
  obtain⟨e2,h2,k2⟩:=yz proc up next loop (Im.one proc up (if l.length=0 then next else(out.length:Int)+1+(s.fV:Int)) loop out s) l
  refine⟨e1++e2, ?_,by simp [k1,k2]⟩
  rw [h2,h1];simp
end
theorem QC : ∀ (l:List Pc) (n:Nat) (h:Sh),h.lo.length=n→h.hi.length=n→
 ∃ e lo hi,Sh.go n h l = ⟨h.L++e,h.lo++lo,h.hi++hi⟩∧e.map Im.s=(l.map fun f=>Sm.cW f.body).flatten∧lo.length=l.length∧hi.length=l.length∧
  ∀ (i:Nat) (f:Pc),l[i]? = some f→∃ a b e' Ku:List Im,lo[i]? = some (((h.L++a).length:Int)+1)∧hi[i]? = some (((h.L++a++b).length:Int)+1)∧b.map Im.s=Sm.cW f.body∧e=a++b++e'
 | [],n,h,hl,hh=>⟨[],[],[],by simp [Sh.go],rfl,rfl,rfl,fun i f h=>by simp at h⟩
 | f::l,n,h,hl,hh=>by
  simp only [Sh.go]
  obtain⟨e1,h1,k1⟩:=yz (n:Int) 0 (-1) 0 h.L f.body
  obtain⟨e2,lo,hi,h2,k2,h3,h4,h5⟩:=QC l (n+1) ⟨Im.rows (n:Int) 0 (-1) 0 h.L f.body,h.lo++ [(h.L.length:Int)+1],h.hi++ [((Im.rows (n:Int) 0 (-1) 0 h.L f.body).length:Int)+1]⟩ (by simp [hl]) (by simp [hh])
  refine⟨e1++e2,((h.L.length:Int)+1)::lo,(((Im.rows (n:Int) 0 (-1) 0 h.L f.body).length:Int)+1)::hi, ?_,by simp [k1,k2],by simp [h3],by simp [h4],fun i g gZ=> ?_⟩
  ·rw [h2,h1];simp
  ·cases i with
   | zero=>
    simp only [List.getElem?_cons_zero,Option.some.injEq]at gZ
    subst gZ
    exact⟨[],e1,e2,[],by simp,by rw [h1];simp,k1,by simp⟩
   | succ i=>
    simp only [List.getElem?_cons_succ]at gZ
    obtain⟨a,b,e',Ku,g1,g2,g3,g4⟩:=h5 i g gZ
    refine⟨e1++a,b,e',Ku, ?_, ?_,g3,by rw [g4];simp⟩
    ·rw [List.getElem?_cons_succ,g1,h1];simp
    ·rw [List.getElem?_cons_succ,g2,h1];simp
theorem qi (p:Pg):p.fx.L.map Im.s=p.pre∧∀ (i:Nat) (f:Pc),p.procs[i]? = some f→∃ a b e:List Im,p.fx.lo[i]? = some ((a.length:Int)+1)∧p.fx.hi[i]? = some (((a++b).length:Int)+1)∧b.map Im.s=Sm.cW f.body∧p.fx.L=a++b++e:=by
 obtain⟨e,lo,hi,h1,h2,h3,h4,h5⟩:=QC p.procs 0 ⟨[],[],[]⟩ rfl rfl
 unfold Pg.fx
 rw [h1]
 refine⟨by simpa [Pg.pre]using h2,fun i f hf=> ?_⟩
 obtain⟨a,b,e',_,g1,g2,g3,g4⟩:=h5 i f hf
 exact⟨a,b,e',by simpa using g1,by simpa using g2,g3,by simpa using g4⟩
end Go.Abs

/-! Sl2 -/

namespace Go.Abs
set_option maxRecDepth 8000
open Go.Proofs
def Pg.at (p:Pg) (name:aC):Int:=lU (fun f:Pc=>f.name==name) 0 p.procs
theorem Ye (name:aC) (f:Pc):aB Tryz.prog kX ([.agg (bq f)]++ [.ptr 0 0]) ⟨[[.str name]],[]⟩ (.bool (f.name==name)) ⟨[[.str name]],[]⟩:=by
 show aB Tryz.prog kX [.agg (bq f), .ptr 0 0] _ _ _
 refine aB.go xo rfl fun B Q hB hQ=> ?_
 have⟨hF,hP,hZ,gA⟩:=bH
 repeat' (first
 | simp only [go_sem,hF,hP,hZ,gA]
 | (with_reducible refine aG hQ ?_;simp only [ay,az,Option.some.injEq,exists_eq_left',go_sem,hF,hP,hZ,gA];repeat' (first | exact Ok.out | with_reducible refine aI ?_ ?_ | (simp;done))))
theorem QD {p:Pg} (hs:p.procs.length<4611686018427387904) (name:aC) (s:St):aB Tryz.prog l5 [.dE (iu p) 0, .str name] s (.int .i64 (p.at name)) s:=by
 refine aB.pure ?_ (by simp [D.bp,D.ok,yy]) rfl s
 have hi:=fun {s:St} {o:Nat} (ho:s.aw[o]? = some [.str name])=>As (uS (l:=p.procs) (f:=kX) (row:= [.str name]) (b:=fun f:Pc=>f.name==name) hs rfl (by with_unfolding_all rfl) (fun x _=>Ye name x)) rfl (vy _) rfl ho
 have gZ:=fun {s:St} {o:Nat} (ho:s.aw[o]? = some [.str name])=>(show aB Tryz.prog gh [.slice .shared 5 (p.procs.map bq), .gb 167 [.ptr o 0]] s (.int .i64 (p.at name)) s from hi ho)
 unfold S0
 rw [rM]
 refine aB.go zn rfl fun B Q hB hQ=> ?_
 have⟨hF,hP,hZ,gA⟩:=bH
 repeat' (first
 | simp only [go_sem,hF,hP,hZ,gA]
 | (with_reducible refine CU (gZ (by with_unfolding_all rfl)) ?_)
 | (with_reducible refine aG hQ ?_;simp only [ay,az,Option.some.injEq,exists_eq_left',go_sem,hF,hP,hZ,gA];repeat' (first | exact Ok.out | with_reducible refine aI ?_ ?_ | (simp;done))))
theorem QE : ∀ (l:List Pc) (n:Nat) (h:Sh),(Sh.go n h l).L.length≤h.L.length+Pc.aX l
 | [],n,h=>by simp [Sh.go]
 | f::l,n,h=>by
  simp only [Sh.go]
  refine Nat.le_trans (QE l _ _) ?_
  have:=gI (n:Int) 0 (-1) 0 h.L f.body
  have:=kC f.body
  simp only [Pc.aX,Pc.size];omega
theorem qj (p:Pg):p.fx.L.length≤Pc.aX p.procs:=by have:=QE p.procs 0 ⟨[],[],[]⟩;simpa [Pg.fx]using this
theorem abN {p:Pg} {i:Nat} (hs:Pc.aX p.procs<1000000000) {a b e:List Im} (h1:p.fx.lo[i]? = some ((a.length:Int)+1)) (h2:p.fx.hi[i]? = some (((a++b).length:Int)+1)) (h4:p.fx.L=a++b++e) (s:St) :
 aB Tryz.prog gN [.dE (iu p) 0, .int .i64 (i:Int)] s (.slice .shared 17 (b.map ff)) s:=by
 refine aB.pure ?_ (by simp [D.bp,D.ok,yy]) (by simp [D.ok,Tag.ok,Hh]) s
 have hL:p.fx.L.length<1000000000:=Nat.lt_of_le_of_lt (qj p) hs
 have l1:(i:Int)<(p.fx.lo.length:Int):=by have:=(List.getElem?_eq_some_iff.1 h1).1;omega
 have l2:(i:Int)<(p.fx.hi.length:Int):=by have:=(List.getElem?_eq_some_iff.1 h2).1;omega
 have WM:a.length+b.length≤p.fx.L.length:=by rw [h4];simp
 have w1:IntKind.wrap .i64 ((a.length:Int)+1 - 1)=(a.length:Int):=by rw [show(a.length:Int)+1 - 1=(a.length:Int) by omega];exact c6 (by omega) (by omega)
 have w2:IntKind.wrap .i64 (((a.length+b.length:Nat):Int)+1 - 1)=((a.length+b.length:Nat):Int):=by rw [show((a.length+b.length:Nat):Int)+1 - 1=((a.length+b.length:Nat):Int) by omega];exact c6 (by omega) (by omega)
 have c1:((a.length:Int)≤((a.length+b.length:Nat):Int))=True:=by simp only [eq_iff_iff,iff_true];omega
 have c2:(((a.length+b.length:Nat):Int)≤(p.fx.L.length:Int))=True:=by simp only [eq_iff_iff,iff_true];omega
 have hb:List.drop a.length (List.take (a.length+b.length) (List.map ff p.fx.L))=List.map ff b:=by rw [h4];simp [List.map_append,List.take_append,List.drop_append]
 unfold S0
 rw [rM]
 refine aB.go Bq rfl fun B Q hB hQ=> ?_
 have⟨hF,hP,hZ,gA⟩:=bH
 repeat' (first
 | simp only [go_sem,hF,hP,hZ,gA,h1,h2,List.length_append,w1,w2,c1,c2,or_true,true_and,and_self,ite_self,Int.toNat_natCast,hb]
 | (with_reducible first | refine bw fun hc=> ?_ | refine bx fun hc=> ?_ | refine bA (fun hc=> ?_) fun hc=> ?_) <;> (try simp only [hc,bs, ↓reduceIte]at h) <;> try simp only [hc]
 | (with_reducible refine aG hQ ?_;(try cases h);simp only [ay,az,bF,bG,go_sem,hF,hP,hZ,gA,h1,h2,List.length_append,w1,w2,c1,c2,or_true,true_and,and_self,ite_self,Int.toNat_natCast,hb];try exact mj)
 | (cases h;done))
theorem T5 {p:Pg} {i:Nat} {f:Pc} (hf:p.procs[i]? = some f) (hs:Pc.aX p.procs<1000000000) : ∃ it:List Im,it.map Im.s=Sm.cW f.body∧∀ s,aB Tryz.prog gN [.dE (iu p) 0, .int .i64 (i:Int)] s (.slice .shared 17 (it.map ff)) s:=by
 obtain⟨a,b,e,h1,h2,h3,h4⟩:=(qi p).2 i f hf
 exact⟨b,h3,abN hs h1 h2 h4⟩
end Go.Abs

/-! Nm1 -/

namespace Go.Abs
set_option maxRecDepth 8000
open Go.Proofs
mutual
def Ex.lV (out:List aC):Ex→List aC
 | ⟨op,_,name,kids⟩=>Ex.k6 (if op==2 && !(er out name)then out++ [name]else out) kids
def Ex.k6 (out:List aC):List Ex→List aC
 | []=>out
 | x::l=>Ex.k6 (Ex.lV out x) l
end
def Ex.names (x:Ex):List aC:=if x.may then x.lV []else []
mutual
theorem rN (out:List aC) : ∀ x:Ex,(Ex.lV out x).length≤out.length+x.size
 | ⟨op,n,name,kids⟩=>by
  simp only [Ex.lV,Ex.size]
  have h:=FP (if op==2 && !(er out name)then out++ [name]else out) kids
  refine Nat.le_trans h ?_
  split <;> simp <;> omega
theorem FP (out:List aC) : ∀ l:List Ex,(Ex.k6 out l).length≤out.length+Ex.aX l
 | []=>by simp [Ex.k6,Ex.aX]
 | x::l=>by
  simp only [Ex.k6,Ex.aX]
  have h1:=rN out x
  have h2:=FP (Ex.lV out x) l
  omega
end
def sj (out:List aC) (x:aC):List aC:=if er out x then out else out++ [x]
def afz (x:aC):List aC→Bool
 | []=>false
 | s::l=>if s==x then true else afz x l
abbrev QF (N:Nat):Prop:=∀ (x:Ex),x.size≤N→∀ out:List aC,out.length+x.size≤1000000000→∀ {s:St} {t:Nat},s.aA[t]? = some (some out.length)→
 aB Tryz.prog iC [.agg (bu x), .slice (.tok t) 1 (out.map encStr)] s (.slice (.tok t) 1 ((x.lV out).map encStr)) ⟨s.aw,s.aA.set t (some (x.lV out).length)⟩
theorem abO {N:Nat} (ih:QF N) {op m:Int} {name:aC} {kids:List Ex} (h:Ex.size ⟨op,m,name,kids⟩≤N+1) {out:List aC} (ho:out.length+Ex.size ⟨op,m,name,kids⟩≤1000000000) :
 aB Tryz.prog iC [.agg (bu ⟨op,m,name,kids⟩), .slice (.tok 0) 1 (out.map encStr)] ⟨[],[some out.length]⟩ (.slice (.tok 0) 1 ((Ex.lV out ⟨op,m,name,kids⟩).map encStr)) ⟨[],[some (Ex.lV out ⟨op,m,name,kids⟩).length]⟩:=by
 obtain⟨R,hG⟩ : ∃ R,Ex.lV out ⟨op,m,name,kids⟩=R:=⟨_,rfl⟩
 rw [hG]
 simp only [Ex.lV]at hG
 simp only [Ex.size]at h ho
 have hlen:kids.length<1000000000:=by have:=Ex.cP kids;omega
 have hk : ∀ y∈kids,∀ out:List aC,out.length+y.size≤1000000000→∀ {s:St} {t:Nat},s.aA[t]? = some (some out.length)→
  aB Tryz.prog iC [.agg (bu y), .slice (.tok t) 1 (out.map encStr)] s (.slice (.tok t) 1 ((y.lV out).map encStr)) ⟨s.aw,s.aA.set t (some (y.lV out).length)⟩:=fun y hy out ho=>
  ih y (by have:=Ex.bV hy;omega) out ho
 refine aB.go qS rfl fun B Q hB hQ=> ?_
 have⟨hF,hP,hZ,gA⟩:=bH
 have hZ:(out.length+1)*17≤bm:=by unfold bm;omega
 rcases Bool.eq_false_or_eq_true (op==2)with b1 | b1
 ·rcases Bool.eq_false_or_eq_true (er out name)with b2 | b2
  ·simp only [b1,b2,Bool.not_true,Bool.and_false,Bool.false_eq_true,if_false]at hG
   repeat' (first
 | simp only [go_sem,hF,hP,hZ,gA,b1,b2]
 | (with_reducible refine CU (jb (l:=out) (by omega) name _ _) ?_)
 | (with_reducible refine aG hQ ?_;simp only [ay,az,Option.some.injEq,exists_eq_left',go_sem,hF,hP,hZ,gA];repeat' (first | exact Ok.out | with_reducible refine aI ?_ ?_ | (simp;done))))
   refine cU 1 1 (bk.ind (ι:=List Ex×Nat×List aC×Nat) (fun i=>kids.drop i.2.1=i.1∧Ex.k6 i.2.2.1 i.1=R∧i.2.2.1.length+Ex.aX i.1≤1000000000∧i.2.2.2=i.2.2.1.length) (fun i=>i.1.length)
    (fun i=> [(1, .slice (.tok 0) 1 (i.2.2.1.map encStr)),(2, .ptr 0 0),(23, .slice .shared 4 (kids.map bu)),(24, .int .i64 (kids.length:Int)),(25, .int .i64 (i.2.1:Int))]) (fun i=>⟨[bu ⟨op,m,name,kids⟩],[some i.2.2.2]⟩) ?_ (kids,0,out,out.length) ⟨rfl,hG,by simp;omega,by simp⟩)
   rintro⟨rest,k,cu,n'⟩ ⟨h1,h2,h3,h4⟩ IH
   dsimp only at h1 h2 h3 h4
   subst h4
   cases rest with
   | nil=>
    have hF:=drop_nil h1
    simp only [Ex.k6]at h2
    subst h2
    repeat' (first
 | simp only [go_sem,hF,hP,hZ,gA]
 | (with_reducible refine aG hQ ?_;simp only [ay,az,Option.some.injEq,exists_eq_left',go_sem,hF,hP,hZ,gA];repeat' (first | exact Ok.out | with_reducible refine aI ?_ ?_ | (simp;done))))
   | cons y rest=>
    obtain⟨hP,g2,hF,g4⟩:=drop_cons h1
    have cv:k<4611686018427387904:=by omega
    simp only [Ex.k6]at h2
    simp only [Ex.aX]at h3
    have hy:=fun {s:St} {t:Nat} (ht:s.aA[t]? = some (some cu.length))=>hk y (List.mem_of_getElem? hP) cu (by omega) ht
    have hl:=rN cu y
    repeat' (first
 | simp only [go_sem,hF,hP,hZ,gA]
 | (with_reducible refine CU (hy (by with_unfolding_all rfl)) ?_)
 | (with_reducible refine aG hQ ?_;simp only [ay,az,Option.some.injEq,exists_eq_left',go_sem,hF,hP,hZ,gA];repeat' (first | exact Ok.out | with_reducible refine aI ?_ ?_ | (simp;done))))
    refine dZ 1 1 ?_ ?_ (IH (rest,k+1,_,_) ⟨g2,h2,by dsimp only;omega,rfl⟩ (Nat.lt_succ_self _))
    ·(simp only [go_sem,hF,hP,hZ,gA,aM cv];try exact bO)
    ·(simp only [go_sem,hF,hP,hZ,gA,aM cv];try exact bO)
  ·simp only [b1,b2,Bool.not_false,Bool.and_true,if_true]at hG
   repeat' (first
 | simp only [go_sem,hF,hP,hZ,gA,b1,b2]
 | (with_reducible refine CU (jb (l:=out) (by omega) name _ _) ?_)
 | (with_reducible refine aG hQ ?_;simp only [ay,az,Option.some.injEq,exists_eq_left',go_sem,hF,hP,hZ,gA];repeat' (first | exact Ok.out | with_reducible refine aI ?_ ?_ | (simp;done))))
   refine dZ 1 1 ?_ ?_ (bk.ind (ι:=List Ex×Nat×List aC×Nat) (fun i=>kids.drop i.2.1=i.1∧Ex.k6 i.2.2.1 i.1=R∧i.2.2.1.length+Ex.aX i.1≤1000000000∧i.2.2.2=i.2.2.1.length) (fun i=>i.1.length)
    (fun i=> [(1, .slice (.tok 0) 1 (i.2.2.1.map encStr)),(2, .ptr 0 0),(23, .slice .shared 4 (kids.map bu)),(24, .int .i64 (kids.length:Int)),(25, .int .i64 (i.2.1:Int))]) (fun i=>⟨[bu ⟨op,m,name,kids⟩],[some i.2.2.2]⟩) ?_ (kids,0,(out++ [name]),(out.length+1)) ⟨rfl,hG,by simp;omega,by simp⟩)
   ·(simp only [go_sem,hF,hP,hZ,gA,List.map_append,List.map_cons,List.map_nil,List.length_append,List.length_cons,List.length_nil,encStr];try exact bO)
   ·(simp only [go_sem,hF,hP,hZ,gA,List.map_append,List.map_cons,List.map_nil,List.length_append,List.length_cons,List.length_nil,encStr];try exact bO)
   rintro⟨rest,k,cu,n'⟩ ⟨h1,h2,h3,h4⟩ IH
   dsimp only at h1 h2 h3 h4
   subst h4
   cases rest with
   | nil=>
    have hF:=drop_nil h1
    simp only [Ex.k6]at h2
    subst h2
    repeat' (first
 | simp only [go_sem,hF,hP,hZ,gA]
 | (with_reducible refine aG hQ ?_;simp only [ay,az,Option.some.injEq,exists_eq_left',go_sem,hF,hP,hZ,gA];repeat' (first | exact Ok.out | with_reducible refine aI ?_ ?_ | (simp;done))))
   | cons y rest=>
    obtain⟨hP,g2,hF,g4⟩:=drop_cons h1
    have cv:k<4611686018427387904:=by omega
    simp only [Ex.k6]at h2
    simp only [Ex.aX]at h3
    have hy:=fun {s:St} {t:Nat} (ht:s.aA[t]? = some (some cu.length))=>hk y (List.mem_of_getElem? hP) cu (by omega) ht
    have hl:=rN cu y
    repeat' (first
 | simp only [go_sem,hF,hP,hZ,gA]
 | (with_reducible refine CU (hy (by with_unfolding_all rfl)) ?_)
 | (with_reducible refine aG hQ ?_;simp only [ay,az,Option.some.injEq,exists_eq_left',go_sem,hF,hP,hZ,gA];repeat' (first | exact Ok.out | with_reducible refine aI ?_ ?_ | (simp;done))))
    refine dZ 1 1 ?_ ?_ (IH (rest,k+1,_,_) ⟨g2,h2,by dsimp only;omega,rfl⟩ (Nat.lt_succ_self _))
    ·(simp only [go_sem,hF,hP,hZ,gA,aM cv];try exact bO)
    ·(simp only [go_sem,hF,hP,hZ,gA,aM cv];try exact bO)
 ·simp only [b1,Bool.false_and,Bool.false_eq_true,if_false]at hG
  repeat' (first
 | simp only [go_sem,hF,hP,hZ,gA,b1]
 | (with_reducible refine aG hQ ?_;simp only [ay,az,Option.some.injEq,exists_eq_left',go_sem,hF,hP,hZ,gA];repeat' (first | exact Ok.out | with_reducible refine aI ?_ ?_ | (simp;done))))
  refine cU 1 1 (bk.ind (ι:=List Ex×Nat×List aC×Nat) (fun i=>kids.drop i.2.1=i.1∧Ex.k6 i.2.2.1 i.1=R∧i.2.2.1.length+Ex.aX i.1≤1000000000∧i.2.2.2=i.2.2.1.length) (fun i=>i.1.length)
   (fun i=> [(1, .slice (.tok 0) 1 (i.2.2.1.map encStr)),(2, .ptr 0 0),(23, .slice .shared 4 (kids.map bu)),(24, .int .i64 (kids.length:Int)),(25, .int .i64 (i.2.1:Int))]) (fun i=>⟨[bu ⟨op,m,name,kids⟩],[some i.2.2.2]⟩) ?_ (kids,0,out,out.length) ⟨rfl,hG,by simp;omega,by simp⟩)
  rintro⟨rest,k,cu,n'⟩ ⟨h1,h2,h3,h4⟩ IH
  dsimp only at h1 h2 h3 h4
  subst h4
  cases rest with
  | nil=>
   have hF:=drop_nil h1
   simp only [Ex.k6]at h2
   subst h2
   repeat' (first
 | simp only [go_sem,hF,hP,hZ,gA]
 | (with_reducible refine aG hQ ?_;simp only [ay,az,Option.some.injEq,exists_eq_left',go_sem,hF,hP,hZ,gA];repeat' (first | exact Ok.out | with_reducible refine aI ?_ ?_ | (simp;done))))
  | cons y rest=>
   obtain⟨hP,g2,hF,g4⟩:=drop_cons h1
   have cv:k<4611686018427387904:=by omega
   simp only [Ex.k6]at h2
   simp only [Ex.aX]at h3
   have hy:=fun {s:St} {t:Nat} (ht:s.aA[t]? = some (some cu.length))=>hk y (List.mem_of_getElem? hP) cu (by omega) ht
   have hl:=rN cu y
   repeat' (first
 | simp only [go_sem,hF,hP,hZ,gA]
 | (with_reducible refine CU (hy (by with_unfolding_all rfl)) ?_)
 | (with_reducible refine aG hQ ?_;simp only [ay,az,Option.some.injEq,exists_eq_left',go_sem,hF,hP,hZ,gA];repeat' (first | exact Ok.out | with_reducible refine aI ?_ ?_ | (simp;done))))
   refine dZ 1 1 ?_ ?_ (IH (rest,k+1,_,_) ⟨g2,h2,by dsimp only;omega,rfl⟩ (Nat.lt_succ_self _))
   ·(simp only [go_sem,hF,hP,hZ,gA,aM cv];try exact bO)
   ·(simp only [go_sem,hF,hP,hZ,gA,aM cv];try exact bO)
theorem T6 : ∀ N,QF N:=by
 intro N
 induction N with
 | zero=>rintro⟨op,m,name,kids⟩ h;simp only [Ex.size]at h;omega
 | succ N ih=>
  rintro⟨op,m,name,kids⟩ h out ho s t ht
  exact(abO ih h ho).ahK (pre:= [_]) (post:= []) (by simp only [D.bp,D.ok,gE];rfl) rfl (eC out) (eC _) ht
abbrev ao3 (N:Nat):Prop:=∀ (x:Ex),x.size≤N→∀ out:List aC,out.length+x.size≤1000000000→∀ {s:St} {t:Nat},s.aA[t]? = some (some out.length)→
 aB Tryz.prog Kd [.agg (bu x), .slice (.tok t) 1 (out.map encStr)] s (.slice (.tok t) 1 ((x.lV out).map encStr)) ⟨s.aw,s.aA.set t (some (x.lV out).length)⟩
end Go.Abs

/-! Nm2 -/

namespace Go.Abs
set_option maxRecDepth 8000
open Go.Proofs
theorem QG {op m:Int} {name:aC} {kids:List Ex} (h:Ex.form ⟨op,m,name,kids⟩=true) (h2:(op==2)=true):kids = []:=by
 have e:op=2:=by simpa using h2
 subst e
 simp only [Ex.form]at h
 split at h
 ·cases h
 ·rename_i hh
  simp only [Bool.or_eq_true,not_or,bne_iff_ne,ne_eq,Decidable.not_not]at hh
  have:=hh.1.1.1.1
  have e:mq 2=0:=rfl
  rw [e]at this
  exact List.length_eq_zero_iff.1 (by omega)
theorem T7 {op m:Int} {name:aC} {kids:List Ex} (hf:(op==2)=true→kids = []) (ho:Ex.size ⟨op,m,name,kids⟩≤1000000000) (s:St) :
 aB Tryz.prog iC [.agg (bu ⟨op,m,name,kids⟩), .slice .full 0 []] s (.slice .shared 1 ((Ex.lV [] ⟨op,m,name,kids⟩).map encStr)) s:=by
 refine aB.pure ?_ (by simp only [D.bp,D.ok,gE];rfl) (by simp only [D.ok,Tag.ok,eC];rfl) s
 obtain⟨R,hG⟩ : ∃ R,Ex.lV [] ⟨op,m,name,kids⟩=R:=⟨_,rfl⟩
 rw [hG]
 simp only [Ex.lV]at hG
 simp only [Ex.size]at ho
 have hlen:kids.length<1000000000:=by have:=Ex.cP kids;omega
 have hk : ∀ y∈kids,∀ out:List aC,out.length+y.size≤1000000000→∀ {s:St} {t:Nat},s.aA[t]? = some (some out.length)→
  aB Tryz.prog iC [.agg (bu y), .slice (.tok t) 1 (out.map encStr)] s (.slice (.tok t) 1 ((y.lV out).map encStr)) ⟨s.aw,s.aA.set t (some (y.lV out).length)⟩:=fun y hy out ho=>
  T6 y.size y (Nat.le_refl _) out ho
 unfold S0
 rcases Bool.eq_false_or_eq_true (op==2)with b1 | b1
 ·have hk0:=hf b1
  subst hk0
  have e:er [] name=false:=rfl
  simp only [b1,e,Bool.not_false,Bool.and_true,if_true,Ex.k6,List.nil_append]at hG
  subst hG
  refine aB.go qS rfl fun B Q hB hQ=> ?_
  have⟨hF,hP,hZ,gA⟩:=bH
  have hZ:17≤bm:=by unfold bm;omega
  repeat' (first
 | simp only [go_sem,hF,hP,hZ,gA,b1,List.map_nil,List.map_cons,List.length_nil,encStr,Int.natCast_zero,Int.lt_irrefl,decide_false]
 | (with_reducible refine CU (IQ name _ _ _) ?_)
 | (with_reducible refine bk.qA ?_)
 | (with_reducible refine aG hQ ?_;simp only [ay,az,Option.some.injEq,exists_eq_left',go_sem,hF,hP,hZ,gA];repeat' (first | exact Ok.out | with_reducible refine aI ?_ ?_ | (simp;done))))
 ·simp only [b1,Bool.false_and,Bool.false_eq_true,if_false]at hG
  refine aB.go qS rfl fun B Q hB hQ=> ?_
  have⟨hF,hP,hZ,gA⟩:=bH
  repeat' (first
 | simp only [go_sem,hF,hP,hZ,gA,b1]
 | (with_reducible refine aG hQ ?_;simp only [ay,az,Option.some.injEq,exists_eq_left',go_sem,hF,hP,hZ,gA];repeat' (first | exact Ok.out | with_reducible refine aI ?_ ?_ | (simp;done))))
  refine bk.ov 1 1 rfl ?_
  simp only [go_sem,hF,hP,hZ,gA]
  refine cU 1 1 (bk.ind (ι:=List Ex×Nat×List aC×Nat) (fun i=>kids.drop i.2.1=i.1∧Ex.k6 i.2.2.1 i.1=R∧i.2.2.1.length+Ex.aX i.1≤1000000000∧i.2.2.2=i.2.2.1.length) (fun i=>i.1.length)
   (fun i=> [(1, .slice (.tok 0) 1 (i.2.2.1.map encStr)),(2, .ptr 0 0),(23, .slice .shared 4 (kids.map bu)),(24, .int .i64 (kids.length:Int)),(25, .int .i64 (i.2.1:Int))]) (fun i=>⟨[bu ⟨op,m,name,kids⟩],[some i.2.2.2]⟩) ?_ (kids,0,[],0) ⟨rfl,hG,by simp;omega,by simp⟩)
  rintro⟨rest,k,cu,n'⟩ ⟨h1,h2,h3,h4⟩ IH
  dsimp only at h1 h2 h3 h4
  subst h4
  cases rest with
  | nil=>
   have hF:=drop_nil h1
   simp only [Ex.k6]at h2
   subst h2
   repeat' (first
 | simp only [go_sem,hF,hP,hZ,gA]
 | (with_reducible refine aG hQ ?_;simp only [ay,az,Option.some.injEq,exists_eq_left',go_sem,hF,hP,hZ,gA];repeat' (first | exact Ok.out | with_reducible refine aI ?_ ?_ | (simp;done))))
  | cons y rest=>
   obtain⟨hP,g2,hF,g4⟩:=drop_cons h1
   have cv:k<4611686018427387904:=by omega
   simp only [Ex.k6]at h2
   simp only [Ex.aX]at h3
   have hy:=fun {s:St} {t:Nat} (ht:s.aA[t]? = some (some cu.length))=>hk y (List.mem_of_getElem? hP) cu (by omega) ht
   have hl:=rN cu y
   repeat' (first
 | simp only [go_sem,hF,hP,hZ,gA]
 | (with_reducible refine CU (hy (by with_unfolding_all rfl)) ?_)
 | (with_reducible refine aG hQ ?_;simp only [ay,az,Option.some.injEq,exists_eq_left',go_sem,hF,hP,hZ,gA];repeat' (first | exact Ok.out | with_reducible refine aI ?_ ?_ | (simp;done))))
   refine dZ 1 1 ?_ ?_ (IH (rest,k+1,_,_) ⟨g2,h2,by dsimp only;omega,rfl⟩ (Nat.lt_succ_self _))
   ·(simp only [go_sem,hF,hP,hZ,gA,aM cv];try exact bO)
   ·(simp only [go_sem,hF,hP,hZ,gA,aM cv];try exact bO)
theorem mH {x:Ex} (hx:x.size≤1000000000) (ht:x.texts) (s:St):aB Tryz.prog qO [.agg (bu x)] s (.slice .shared 1 (x.names.map encStr)) s:=by
 refine aB.pure ?_ (by simp only [D.bp,D.ok,gE];rfl) (by simp only [D.ok,Tag.ok,eC];rfl) s
 have hm:=fun s=>Dl (x:=x) (by omega) ht s
 simp only [Qp]at hm
 unfold Ex.names
 unfold S0
 cases hb:x.may
 ·simp only [hb]at hm
  simp only [Bool.false_eq_true,if_false,List.map_nil]
  refine aB.go xD rfl fun B Q hB hQ=> ?_
  have⟨hF,hP,hZ,gA⟩:=bH
  repeat' (first
 | simp only [go_sem,hF,hP,hZ,gA]
 | (with_reducible refine CU (hm _) ?_)
 | (with_reducible refine aG hQ ?_;simp only [ay,az,Option.some.injEq,exists_eq_left',go_sem,hF,hP,hZ,gA];repeat' (first | exact Ok.out | with_reducible refine aI ?_ ?_ | (simp;done))))
 ·simp only [hb]at hm
  simp only [if_true]
  have hg : ∀ s,aB Tryz.prog iC [.agg (bu x), .slice .full 0 []] s (.slice .shared 1 ((x.lV []).map encStr)) s:=by
   intro s
   obtain⟨op,m,name,kids⟩:=x
   exact T7 (fun h2=>QG (by simp only [Ex.may,Bool.and_eq_true]at hb;exact hb.2) h2) hx s
  refine aB.go xD rfl fun B Q hB hQ=> ?_
  have⟨hF,hP,hZ,gA⟩:=bH
  repeat' (first
 | simp only [go_sem,hF,hP,hZ,gA]
 | (with_reducible refine CU (hm _) ?_)
 | (with_reducible refine CU (hg _) ?_)
 | (with_reducible refine aG hQ ?_;simp only [ay,az,Option.some.injEq,exists_eq_left',go_sem,hF,hP,hZ,gA];repeat' (first | exact Ok.out | with_reducible refine aI ?_ ?_ | (simp;done))))
end Go.Abs

/-! Nm3 -/

namespace Go.Abs
set_option maxRecDepth 8000
open Go.Proofs
def Ar.said (out:List aC):List Ar→List aC
 | []=>out
 | a::l=>Ar.said ((if a.ref then out++ [a.name]else out)++a.x.names) l
def Sm.tV (v:Sm):List aC:=if v.kind != 10 && v.name != []then [v.name]else []
def Sm.said (v:Sm):List aC:=Ar.said (v.tV++v.x.names) v.args
theorem kD (x:Ex):x.names.length≤x.size:=by
 unfold Ex.names
 split
 ·simpa using rN [] x
 ·exact Nat.zero_le _
def Ar.uB:List Ar→Prop
 | []=>True
 | a::l=>a.x.texts∧Ar.uB l
def Sm.pC (v:Sm):Prop:=v.x.texts∧(∀ a∈v.args,a.x.texts)∧v.x.size+Ar.aX v.args<1000000
theorem j9 {l nx:List aC} {n:Nat} (hn:n=l.length) (h:l.length+nx.length≤1000000000) {g:Tag} (o:List (List D)) :
 jr 1 16 (.slice (.tok 0) 1 (l.map encStr)) (.slice g 1 (nx.map encStr)) ⟨o,[some n]⟩=some (.slice (.tok 0) 1 ((l++nx).map encStr),⟨o,[some (l++nx).length]⟩):=by
 subst hn
 have:=Ig (size:=1) (bytes:=16) (t:=0) (rows:=l.map encStr) (new:=nx.map encStr) (g:=g) (s:=⟨o,[some l.length]⟩) (by simp only [List.length_map];unfold bm;omega) (by simp)
 rw [this]
 simp
theorem Au {v:Sm} (hv:v.pC) (s:St):aB Tryz.prog qL [.agg (aU v)] s (.slice .shared 1 (v.said.map encStr)) s:=by
 refine aB.pure ?_ (by simp only [D.bp,D.ok,jZ];rfl) (by simp only [D.ok,Tag.ok,eC];rfl) s
 obtain⟨ht1,QH,dK⟩:=hv
 obtain⟨R,hG⟩ : ∃ R,v.said=R:=⟨_,rfl⟩
 rw [hG]
 simp only [Sm.said]at hG
 have hlen:v.args.length<1000000000:=by have:=Ar.cP v.args;omega
 have hx:=fun s=>mH (x:=v.x) (by omega) ht1 s
 have KV:=kD v.x
 unfold S0
 refine aB.go EM rfl fun B Q hB hQ=> ?_
 have⟨hF,hP,hZ,gA⟩:=bH
 have hZ:17≤bm:=by unfold bm;omega
 by_cases hb:(v.kind != 10 && v.name != [])=true
 ·simp only [Sm.tV,hb,if_true]at hG
  rw [Bool.and_eq_true]at hb
  obtain⟨b1,b2⟩:=hb
  have fZ:=j9 (l:= [v.name]) (nx:=v.x.names) (n:=1) rfl (by simp;omega) (g:= .shared)
  simp only [List.map_append,List.map_cons,List.map_nil,encStr]at fZ
  have b3:(v.name == [])=false:=by simpa using b2
  repeat' (first
 | simp only [go_sem,hF,hP,hZ,gA,b1,b2,b3,fZ]
 | (with_reducible refine CU (hx _) ?_)
 | (with_reducible refine aG hQ ?_;simp only [ay,az,Option.some.injEq,exists_eq_left',go_sem,hF,hP,hZ,gA];repeat' (first | exact Ok.out | with_reducible refine aI ?_ ?_ | (simp;done))))
  refine dZ 1 1 ?_ ?_ (bk.ind (ι:=List Ar×Nat×List aC×Nat) (fun i=>v.args.drop i.2.1=i.1∧Ar.said i.2.2.1 i.1=R∧i.2.2.1.length+Ar.aX i.1≤2000000∧i.2.2.2=i.2.2.1.length) (fun i=>i.1.length)
   (fun i=> [(3, .slice (.tok 0) 1 (i.2.2.1.map encStr)),(1, .ptr 0 0),(25, .slice .shared 6 (v.args.map ej)),(26, .int .i64 (v.args.length:Int)),(27, .int .i64 (i.2.1:Int))]) (fun i=>⟨[aU v],[some i.2.2.2]⟩) ?_ (v.args,0,([v.name]++v.x.names),(v.x.names.length+1)) ⟨rfl,hG,by simp at KV ⊢;omega,by simp⟩)
  ·(simp only [go_sem,hF,hP,hZ,gA,List.map_append,List.map_cons,List.map_nil,encStr];try exact bO)
  ·(simp only [go_sem,hF,hP,hZ,gA,List.map_append,List.map_cons,List.map_nil,encStr];try exact bO)
  rintro⟨rest,k,out,n'⟩ ⟨h1,h2,h3,h4⟩ IH
  dsimp only at h1 h2 h3 h4
  subst h4
  cases rest with
  | nil=>
   have hF:=drop_nil h1
   simp only [Ar.said]at h2
   subst h2
   repeat' (first
 | simp only [go_sem,hF,hP,hZ,gA]
 | (with_reducible refine aG hQ ?_;simp only [ay,az,Option.some.injEq,exists_eq_left',go_sem,hF,hP,hZ,gA];repeat' (first | exact Ok.out | with_reducible refine aI ?_ ?_ | (simp;done))))
  | cons a rest=>
   obtain⟨hP,g2,hF,g4⟩:=drop_cons h1
   have cv:k<4611686018427387904:=by omega
   simp only [Ar.said]at h2
   simp only [Ar.aX]at h3
   have vO:=fun s=>mH (x:=a.x) (by have:=Ar.bV (List.mem_of_getElem? hP);omega) (QH a (List.mem_of_getElem? hP)) s
   have hl:=kD a.x
   have hZ:(out.length+1)*17≤bm:=by unfold bm;omega
   rcases Bool.eq_false_or_eq_true a.ref with b1 | b1
   ·simp only [b1,if_true]at h2
    have fZ:=j9 (l:=out++ [a.name]) (nx:=a.x.names) (n:=out.length+1) (by simp) (by simp;omega) (g:= .shared)
    simp only [List.map_append,List.map_cons,List.map_nil,encStr]at fZ
    repeat' (first
 | simp only [go_sem,hF,hP,hZ,gA,b1,fZ]
 | (with_reducible refine CU (vO _) ?_)
 | (with_reducible refine aG hQ ?_;simp only [ay,az,Option.some.injEq,exists_eq_left',go_sem,hF,hP,hZ,gA];repeat' (first | exact Ok.out | with_reducible refine aI ?_ ?_ | (simp;done))))
    refine dZ 1 1 ?_ ?_ (IH (rest,k+1,out++ [a.name]++a.x.names,_) ⟨g2,h2,by simp;omega,by simp <;> omega⟩ (Nat.lt_succ_self _))
    ·(simp only [go_sem,hF,hP,hZ,gA,aM cv,List.map_append,List.map_cons,List.map_nil,encStr];try exact bO)
    ·(simp only [go_sem,hF,hP,hZ,gA,aM cv,List.map_append,List.map_cons,List.map_nil,encStr];try exact bO)
   ·simp only [b1,Bool.false_eq_true,if_false]at h2
    have fZ:=j9 (l:=out) (nx:=a.x.names) rfl (by omega) (g:= .shared)
    repeat' (first
 | simp only [go_sem,hF,hP,hZ,gA,b1,fZ]
 | (with_reducible refine CU (vO _) ?_)
 | (with_reducible refine aG hQ ?_;simp only [ay,az,Option.some.injEq,exists_eq_left',go_sem,hF,hP,hZ,gA];repeat' (first | exact Ok.out | with_reducible refine aI ?_ ?_ | (simp;done))))
    refine dZ 1 1 ?_ ?_ (IH (rest,k+1,out++a.x.names,_) ⟨g2,h2,by simp;omega,by simp <;> omega⟩ (Nat.lt_succ_self _))
    ·(simp only [go_sem,hF,hP,hZ,gA,aM cv];try exact bO)
    ·(simp only [go_sem,hF,hP,hZ,gA,aM cv];try exact bO)
 ·simp only [Sm.tV,hb,Bool.false_eq_true,if_false,List.nil_append]at hG
  have tj:(v.kind != 10 && v.name != [])=false:=by simpa using hb
  obtain⟨nx,hnx⟩ : ∃ nx,nx=v.x.names:=⟨_,rfl⟩
  rw [← hnx]at hG KV
  simp only [← hnx]at hx
  by_cases HI:nx = []
  ·subst HI
   simp only [List.map_nil]at hx
   have fZ : ∀ o:List (List D),jr 1 16 (.slice .full 0 []) (.slice .shared 1 []) ⟨o,[]⟩=some (.slice .full 0 [],⟨o,[]⟩):=fun o=>by simp [jr,bm]
   have HB:(v.kind != 10)=false∨(v.kind != 10)=true∧(v.name != [])=false:=by
    cases h1:(v.kind != 10)
    ·exact .inl rfl
    ·rw [h1]at tj;exact .inr ⟨rfl,by simpa using tj⟩
   rcases HB with b1 | ⟨b1,b2⟩
   ·rcases Bool.eq_false_or_eq_true (v.name != [])with b2 | b2
    all_goals
     have b3:(v.name == []) = !(v.name != []):=by simp only [bne,Bool.not_not]
     rw [b2]at b3
     repeat' (first
 | simp only [go_sem,hF,hP,hZ,gA,b1,b2,b3,Bool.not_true,Bool.not_false,fZ]
 | (with_reducible refine CU (hx _) ?_)
 | (with_reducible refine aG hQ ?_;simp only [ay,az,Option.some.injEq,exists_eq_left',go_sem,hF,hP,hZ,gA];repeat' (first | exact Ok.out | with_reducible refine aI ?_ ?_ | (simp;done))))
    all_goals
     refine bk.ov 3 1 rfl ?_
     simp only [go_sem,hF,hP,hZ,gA]
     refine cU 1 1 (bk.ind (ι:=List Ar×Nat×List aC×Nat) (fun i=>v.args.drop i.2.1=i.1∧Ar.said i.2.2.1 i.1=R∧i.2.2.1.length+Ar.aX i.1≤2000000∧i.2.2.2=i.2.2.1.length) (fun i=>i.1.length)
      (fun i=> [(3, .slice (.tok 0) 1 (i.2.2.1.map encStr)),(1, .ptr 0 0),(25, .slice .shared 6 (v.args.map ej)),(26, .int .i64 (v.args.length:Int)),(27, .int .i64 (i.2.1:Int))]) (fun i=>⟨[aU v],[some i.2.2.2]⟩) ?_ (v.args,0,[],0) ⟨rfl,hG,by simp at KV ⊢;omega,by simp⟩)
     rintro⟨rest,k,out,n'⟩ ⟨h1,h2,h3,h4⟩ IH
     dsimp only at h1 h2 h3 h4
     subst h4
     cases rest with
     | nil=>
      have hF:=drop_nil h1
      simp only [Ar.said]at h2
      subst h2
      repeat' (first
 | simp only [go_sem,hF,hP,hZ,gA]
 | (with_reducible refine aG hQ ?_;simp only [ay,az,Option.some.injEq,exists_eq_left',go_sem,hF,hP,hZ,gA];repeat' (first | exact Ok.out | with_reducible refine aI ?_ ?_ | (simp;done))))
     | cons a rest=>
      obtain⟨hP,g2,hF,g4⟩:=drop_cons h1
      have cv:k<4611686018427387904:=by omega
      simp only [Ar.said]at h2
      simp only [Ar.aX]at h3
      have vO:=fun s=>mH (x:=a.x) (by have:=Ar.bV (List.mem_of_getElem? hP);omega) (QH a (List.mem_of_getElem? hP)) s
      have hl:=kD a.x
      have hZ:(out.length+1)*17≤bm:=by unfold bm;omega
      rcases Bool.eq_false_or_eq_true a.ref with b1 | b1
      ·simp only [b1,if_true]at h2
       have fZ:=j9 (l:=out++ [a.name]) (nx:=a.x.names) (n:=out.length+1) (by simp) (by simp;omega) (g:= .shared)
       simp only [List.map_append,List.map_cons,List.map_nil,encStr]at fZ
       repeat' (first
 | simp only [go_sem,hF,hP,hZ,gA,b1,fZ]
 | (with_reducible refine CU (vO _) ?_)
 | (with_reducible refine aG hQ ?_;simp only [ay,az,Option.some.injEq,exists_eq_left',go_sem,hF,hP,hZ,gA];repeat' (first | exact Ok.out | with_reducible refine aI ?_ ?_ | (simp;done))))
       refine dZ 1 1 ?_ ?_ (IH (rest,k+1,out++ [a.name]++a.x.names,_) ⟨g2,h2,by simp;omega,by simp <;> omega⟩ (Nat.lt_succ_self _))
       ·(simp only [go_sem,hF,hP,hZ,gA,aM cv,List.map_append,List.map_cons,List.map_nil,encStr];try exact bO)
       ·(simp only [go_sem,hF,hP,hZ,gA,aM cv,List.map_append,List.map_cons,List.map_nil,encStr];try exact bO)
      ·simp only [b1,Bool.false_eq_true,if_false]at h2
       have fZ:=j9 (l:=out) (nx:=a.x.names) rfl (by omega) (g:= .shared)
       repeat' (first
 | simp only [go_sem,hF,hP,hZ,gA,b1,fZ]
 | (with_reducible refine CU (vO _) ?_)
 | (with_reducible refine aG hQ ?_;simp only [ay,az,Option.some.injEq,exists_eq_left',go_sem,hF,hP,hZ,gA];repeat' (first | exact Ok.out | with_reducible refine aI ?_ ?_ | (simp;done))))
       refine dZ 1 1 ?_ ?_ (IH (rest,k+1,out++a.x.names,_) ⟨g2,h2,by simp;omega,by simp <;> omega⟩ (Nat.lt_succ_self _))
       ·(simp only [go_sem,hF,hP,hZ,gA,aM cv];try exact bO)
       ·(simp only [go_sem,hF,hP,hZ,gA,aM cv];try exact bO)
   ·have b3:(v.name == [])=true:=by simpa using b2
    repeat' (first
 | simp only [go_sem,hF,hP,hZ,gA,b1,b2,b3,fZ]
 | (with_reducible refine CU (hx _) ?_)
 | (with_reducible refine aG hQ ?_;simp only [ay,az,Option.some.injEq,exists_eq_left',go_sem,hF,hP,hZ,gA];repeat' (first | exact Ok.out | with_reducible refine aI ?_ ?_ | (simp;done))))
    refine bk.ov 3 1 rfl ?_
    simp only [go_sem,hF,hP,hZ,gA]
    refine cU 1 1 (bk.ind (ι:=List Ar×Nat×List aC×Nat) (fun i=>v.args.drop i.2.1=i.1∧Ar.said i.2.2.1 i.1=R∧i.2.2.1.length+Ar.aX i.1≤2000000∧i.2.2.2=i.2.2.1.length) (fun i=>i.1.length)
     (fun i=> [(3, .slice (.tok 0) 1 (i.2.2.1.map encStr)),(1, .ptr 0 0),(25, .slice .shared 6 (v.args.map ej)),(26, .int .i64 (v.args.length:Int)),(27, .int .i64 (i.2.1:Int))]) (fun i=>⟨[aU v],[some i.2.2.2]⟩) ?_ (v.args,0,[],0) ⟨rfl,hG,by simp at KV ⊢;omega,by simp⟩)
    rintro⟨rest,k,out,n'⟩ ⟨h1,h2,h3,h4⟩ IH
    dsimp only at h1 h2 h3 h4
    subst h4
    cases rest with
    | nil=>
     have hF:=drop_nil h1
     simp only [Ar.said]at h2
     subst h2
     repeat' (first
 | simp only [go_sem,hF,hP,hZ,gA]
 | (with_reducible refine aG hQ ?_;simp only [ay,az,Option.some.injEq,exists_eq_left',go_sem,hF,hP,hZ,gA];repeat' (first | exact Ok.out | with_reducible refine aI ?_ ?_ | (simp;done))))
    | cons a rest=>
     obtain⟨hP,g2,hF,g4⟩:=drop_cons h1
     have cv:k<4611686018427387904:=by omega
     simp only [Ar.said]at h2
     simp only [Ar.aX]at h3
     have vO:=fun s=>mH (x:=a.x) (by have:=Ar.bV (List.mem_of_getElem? hP);omega) (QH a (List.mem_of_getElem? hP)) s
     have hl:=kD a.x
     have hZ:(out.length+1)*17≤bm:=by unfold bm;omega
     rcases Bool.eq_false_or_eq_true a.ref with b1 | b1
     ·simp only [b1,if_true]at h2
      have fZ:=j9 (l:=out++ [a.name]) (nx:=a.x.names) (n:=out.length+1) (by simp) (by simp;omega) (g:= .shared)
      simp only [List.map_append,List.map_cons,List.map_nil,encStr]at fZ
      repeat' (first
 | simp only [go_sem,hF,hP,hZ,gA,b1,fZ]
 | (with_reducible refine CU (vO _) ?_)
 | (with_reducible refine aG hQ ?_;simp only [ay,az,Option.some.injEq,exists_eq_left',go_sem,hF,hP,hZ,gA];repeat' (first | exact Ok.out | with_reducible refine aI ?_ ?_ | (simp;done))))
      refine dZ 1 1 ?_ ?_ (IH (rest,k+1,out++ [a.name]++a.x.names,_) ⟨g2,h2,by simp;omega,by simp <;> omega⟩ (Nat.lt_succ_self _))
      ·(simp only [go_sem,hF,hP,hZ,gA,aM cv,List.map_append,List.map_cons,List.map_nil,encStr];try exact bO)
      ·(simp only [go_sem,hF,hP,hZ,gA,aM cv,List.map_append,List.map_cons,List.map_nil,encStr];try exact bO)
     ·simp only [b1,Bool.false_eq_true,if_false]at h2
      have fZ:=j9 (l:=out) (nx:=a.x.names) rfl (by omega) (g:= .shared)
      repeat' (first
 | simp only [go_sem,hF,hP,hZ,gA,b1,fZ]
 | (with_reducible refine CU (vO _) ?_)
 | (with_reducible refine aG hQ ?_;simp only [ay,az,Option.some.injEq,exists_eq_left',go_sem,hF,hP,hZ,gA];repeat' (first | exact Ok.out | with_reducible refine aI ?_ ?_ | (simp;done))))
      refine dZ 1 1 ?_ ?_ (IH (rest,k+1,out++a.x.names,_) ⟨g2,h2,by simp;omega,by simp <;> omega⟩ (Nat.lt_succ_self _))
      ·(simp only [go_sem,hF,hP,hZ,gA,aM cv];try exact bO)
      ·(simp only [go_sem,hF,hP,hZ,gA,aM cv];try exact bO)
  ·have fZ : ∀ o:List (List D),jr 1 16 (.slice .full 0 []) (.slice .shared 1 (nx.map encStr)) ⟨o,[]⟩=some (.slice (.tok 0) 1 (nx.map encStr),⟨o,[some nx.length]⟩):=fun o=>by
    have:nx.length*17≤bm:=by unfold bm;omega
    cases nx with
    | nil=>exact absurd rfl HI
    | cons a r=>simp only [List.length_cons]at this;simp [jr,this]
   have HB:(v.kind != 10)=false∨(v.kind != 10)=true∧(v.name != [])=false:=by
    cases h1:(v.kind != 10)
    ·exact .inl rfl
    ·rw [h1]at tj;exact .inr ⟨rfl,by simpa using tj⟩
   rcases HB with b1 | ⟨b1,b2⟩
   ·rcases Bool.eq_false_or_eq_true (v.name != [])with b2 | b2
    all_goals
     have b3:(v.name == []) = !(v.name != []):=by simp only [bne,Bool.not_not]
     rw [b2]at b3
     repeat' (first
 | simp only [go_sem,hF,hP,hZ,gA,b1,b2,b3,Bool.not_true,Bool.not_false,fZ]
 | (with_reducible refine CU (hx _) ?_)
 | (with_reducible refine aG hQ ?_;simp only [ay,az,Option.some.injEq,exists_eq_left',go_sem,hF,hP,hZ,gA];repeat' (first | exact Ok.out | with_reducible refine aI ?_ ?_ | (simp;done))))
    all_goals
     refine cU 1 1 (bk.ind (ι:=List Ar×Nat×List aC×Nat) (fun i=>v.args.drop i.2.1=i.1∧Ar.said i.2.2.1 i.1=R∧i.2.2.1.length+Ar.aX i.1≤2000000∧i.2.2.2=i.2.2.1.length) (fun i=>i.1.length)
      (fun i=> [(3, .slice (.tok 0) 1 (i.2.2.1.map encStr)),(1, .ptr 0 0),(25, .slice .shared 6 (v.args.map ej)),(26, .int .i64 (v.args.length:Int)),(27, .int .i64 (i.2.1:Int))]) (fun i=>⟨[aU v],[some i.2.2.2]⟩) ?_ (v.args,0,nx,_) ⟨rfl,hG,by simp at KV ⊢;omega,by simp⟩)
     rintro⟨rest,k,out,n'⟩ ⟨h1,h2,h3,h4⟩ IH
     dsimp only at h1 h2 h3 h4
     subst h4
     cases rest with
     | nil=>
      have hF:=drop_nil h1
      simp only [Ar.said]at h2
      subst h2
      repeat' (first
 | simp only [go_sem,hF,hP,hZ,gA]
 | (with_reducible refine aG hQ ?_;simp only [ay,az,Option.some.injEq,exists_eq_left',go_sem,hF,hP,hZ,gA];repeat' (first | exact Ok.out | with_reducible refine aI ?_ ?_ | (simp;done))))
     | cons a rest=>
      obtain⟨hP,g2,hF,g4⟩:=drop_cons h1
      have cv:k<4611686018427387904:=by omega
      simp only [Ar.said]at h2
      simp only [Ar.aX]at h3
      have vO:=fun s=>mH (x:=a.x) (by have:=Ar.bV (List.mem_of_getElem? hP);omega) (QH a (List.mem_of_getElem? hP)) s
      have hl:=kD a.x
      have hZ:(out.length+1)*17≤bm:=by unfold bm;omega
      rcases Bool.eq_false_or_eq_true a.ref with b1 | b1
      ·simp only [b1,if_true]at h2
       have fZ:=j9 (l:=out++ [a.name]) (nx:=a.x.names) (n:=out.length+1) (by simp) (by simp;omega) (g:= .shared)
       simp only [List.map_append,List.map_cons,List.map_nil,encStr]at fZ
       repeat' (first
 | simp only [go_sem,hF,hP,hZ,gA,b1,fZ]
 | (with_reducible refine CU (vO _) ?_)
 | (with_reducible refine aG hQ ?_;simp only [ay,az,Option.some.injEq,exists_eq_left',go_sem,hF,hP,hZ,gA];repeat' (first | exact Ok.out | with_reducible refine aI ?_ ?_ | (simp;done))))
       refine dZ 1 1 ?_ ?_ (IH (rest,k+1,out++ [a.name]++a.x.names,_) ⟨g2,h2,by simp;omega,by simp <;> omega⟩ (Nat.lt_succ_self _))
       ·(simp only [go_sem,hF,hP,hZ,gA,aM cv,List.map_append,List.map_cons,List.map_nil,encStr];try exact bO)
       ·(simp only [go_sem,hF,hP,hZ,gA,aM cv,List.map_append,List.map_cons,List.map_nil,encStr];try exact bO)
      ·simp only [b1,Bool.false_eq_true,if_false]at h2
       have fZ:=j9 (l:=out) (nx:=a.x.names) rfl (by omega) (g:= .shared)
       repeat' (first
 | simp only [go_sem,hF,hP,hZ,gA,b1,fZ]
 | (with_reducible refine CU (vO _) ?_)
 | (with_reducible refine aG hQ ?_;simp only [ay,az,Option.some.injEq,exists_eq_left',go_sem,hF,hP,hZ,gA];repeat' (first | exact Ok.out | with_reducible refine aI ?_ ?_ | (simp;done))))
       refine dZ 1 1 ?_ ?_ (IH (rest,k+1,out++a.x.names,_) ⟨g2,h2,by simp;omega,by simp <;> omega⟩ (Nat.lt_succ_self _))
       ·(simp only [go_sem,hF,hP,hZ,gA,aM cv];try exact bO)
       ·(simp only [go_sem,hF,hP,hZ,gA,aM cv];try exact bO)
   ·have b3:(v.name == [])=true:=by simpa using b2
    repeat' (first
 | simp only [go_sem,hF,hP,hZ,gA,b1,b2,b3,fZ]
 | (with_reducible refine CU (hx _) ?_)
 | (with_reducible refine aG hQ ?_;simp only [ay,az,Option.some.injEq,exists_eq_left',go_sem,hF,hP,hZ,gA];repeat' (first | exact Ok.out | with_reducible refine aI ?_ ?_ | (simp;done))))
    refine cU 1 1 (bk.ind (ι:=List Ar×Nat×List aC×Nat) (fun i=>v.args.drop i.2.1=i.1∧Ar.said i.2.2.1 i.1=R∧i.2.2.1.length+Ar.aX i.1≤2000000∧i.2.2.2=i.2.2.1.length) (fun i=>i.1.length)
     (fun i=> [(3, .slice (.tok 0) 1 (i.2.2.1.map encStr)),(1, .ptr 0 0),(25, .slice .shared 6 (v.args.map ej)),(26, .int .i64 (v.args.length:Int)),(27, .int .i64 (i.2.1:Int))]) (fun i=>⟨[aU v],[some i.2.2.2]⟩) ?_ (v.args,0,nx,_) ⟨rfl,hG,by simp at KV ⊢;omega,by simp⟩)
    rintro⟨rest,k,out,n'⟩ ⟨h1,h2,h3,h4⟩ IH
    dsimp only at h1 h2 h3 h4
    subst h4
    cases rest with
    | nil=>
     have hF:=drop_nil h1
     simp only [Ar.said]at h2
     subst h2
     repeat' (first
 | simp only [go_sem,hF,hP,hZ,gA]
 | (with_reducible refine aG hQ ?_;simp only [ay,az,Option.some.injEq,exists_eq_left',go_sem,hF,hP,hZ,gA];repeat' (first | exact Ok.out | with_reducible refine aI ?_ ?_ | (simp;done))))
    | cons a rest=>
     obtain⟨hP,g2,hF,g4⟩:=drop_cons h1
     have cv:k<4611686018427387904:=by omega
     simp only [Ar.said]at h2
     simp only [Ar.aX]at h3
     have vO:=fun s=>mH (x:=a.x) (by have:=Ar.bV (List.mem_of_getElem? hP);omega) (QH a (List.mem_of_getElem? hP)) s
     have hl:=kD a.x
     have hZ:(out.length+1)*17≤bm:=by unfold bm;omega
     rcases Bool.eq_false_or_eq_true a.ref with b1 | b1
     ·simp only [b1,if_true]at h2
      have fZ:=j9 (l:=out++ [a.name]) (nx:=a.x.names) (n:=out.length+1) (by simp) (by simp;omega) (g:= .shared)
      simp only [List.map_append,List.map_cons,List.map_nil,encStr]at fZ
      repeat' (first
 | simp only [go_sem,hF,hP,hZ,gA,b1,fZ]
 | (with_reducible refine CU (vO _) ?_)
 | (with_reducible refine aG hQ ?_;simp only [ay,az,Option.some.injEq,exists_eq_left',go_sem,hF,hP,hZ,gA];repeat' (first | exact Ok.out | with_reducible refine aI ?_ ?_ | (simp;done))))
      refine dZ 1 1 ?_ ?_ (IH (rest,k+1,out++ [a.name]++a.x.names,_) ⟨g2,h2,by simp;omega,by simp <;> omega⟩ (Nat.lt_succ_self _))
      ·(simp only [go_sem,hF,hP,hZ,gA,aM cv,List.map_append,List.map_cons,List.map_nil,encStr];try exact bO)
      ·(simp only [go_sem,hF,hP,hZ,gA,aM cv,List.map_append,List.map_cons,List.map_nil,encStr];try exact bO)
     ·simp only [b1,Bool.false_eq_true,if_false]at h2
      have fZ:=j9 (l:=out) (nx:=a.x.names) rfl (by omega) (g:= .shared)
      repeat' (first
 | simp only [go_sem,hF,hP,hZ,gA,b1,fZ]
 | (with_reducible refine CU (vO _) ?_)
 | (with_reducible refine aG hQ ?_;simp only [ay,az,Option.some.injEq,exists_eq_left',go_sem,hF,hP,hZ,gA];repeat' (first | exact Ok.out | with_reducible refine aI ?_ ?_ | (simp;done))))
      refine dZ 1 1 ?_ ?_ (IH (rest,k+1,out++a.x.names,_) ⟨g2,h2,by simp;omega,by simp <;> omega⟩ (Nat.lt_succ_self _))
      ·(simp only [go_sem,hF,hP,hZ,gA,aM cv];try exact bO)
      ·(simp only [go_sem,hF,hP,hZ,gA,aM cv];try exact bO)
end Go.Abs

/-! Tree1 -/

namespace Go.Abs
set_option maxRecDepth 8000
open Go.Proofs
theorem Dz {size bytes z:Nat} {g:Tag} {rows:List (List D)} {s:St} (h:rows.length*(bytes+1)≤bm) (hr:rows≠ []) :
 jr size bytes (.slice .full z []) (.slice g size rows) s=some (.slice (.tok s.aA.length) size rows,⟨s.aw,s.aA++ [some rows.length]⟩):=by
 cases rows with
 | nil=>exact absurd rfl hr
 | cons r l=>simp only [jr];simp at h ⊢;exact h
theorem vP {l:List aC} (hl:l.length<1073741824) (g:Tag) (s:St):aB Tryz.prog gQ [.slice g 1 (l.map encStr)] s (.slice .shared 1 (l.map encStr)) s:=by
 refine dV.wg (.cons (Wk.shared _ _ _) .nil) (aB.pure ?_ (by simp [D.bp,D.ok,Tag.ok,eC]) (by simp [D.ok,Tag.ok,eC]) s)
 unfold S0
 refine aB.go vi rfl fun B Q hB hQ=> ?_
 have⟨hF,hP,hZ,gA⟩:=bH
 cases l with
 | nil=>
  repeat' (first
 | simp only [go_sem,hF,hP,hZ,gA]
 | (with_reducible refine aG hQ ?_;simp only [ay,az,Option.some.injEq,exists_eq_left',go_sem,hF,hP,hZ,gA];repeat' (first | exact Ok.out | with_reducible refine aI ?_ ?_ | (simp;done))))
  refine Ih (fun _=> ?_) ?_
  ·repeat' (first
 | simp only [go_sem,hF,hP,hZ,gA,jr,true_or,Nat.zero_le]
 | (with_reducible refine aG hQ ?_;simp only [ay,az,Option.some.injEq,exists_eq_left',go_sem,hF,hP,hZ,gA];repeat' (first | exact Ok.out | with_reducible refine aI ?_ ?_ | (simp;done))))
  ·repeat' (first
 | simp only [go_sem,hF,hP,hZ,gA,jr,true_or,Nat.zero_le]
 | (with_reducible refine aG hQ ?_;simp only [ay,az,Option.some.injEq,exists_eq_left',go_sem,hF,hP,hZ,gA];repeat' (first | exact Ok.out | with_reducible refine aI ?_ ?_ | (simp;done))))
 | cons x l=>
  have e:((x::l).map encStr).length*(16+1)≤bm:=by simp only [List.length_map,bm];omega
  have e2:=fun s=>Dz (size:=1) (z:=1) (g:= .shared) (s:=s) e (by simp)
  simp only [List.map_cons,encStr]at e2
  repeat' (first
 | simp only [go_sem,hF,hP,hZ,gA,e2]
 | (with_reducible refine aG hQ ?_;simp only [ay,az,Option.some.injEq,exists_eq_left',go_sem,hF,hP,hZ,gA];repeat' (first | exact Ok.out | with_reducible refine aI ?_ ?_ | (simp;done))))
theorem T8 {l:List Pm} (hl:l.length<1073741824) (g:Tag) (s:St):aB Tryz.prog kR [.slice g 2 (l.map fK)] s (.slice .shared 2 (l.map fK)) s:=by
 refine dV.wg (.cons (Wk.shared _ _ _) .nil) (aB.pure ?_ (by simp [D.bp,D.ok,Tag.ok,Nu]) (by simp [D.ok,Tag.ok,Nu]) s)
 unfold S0
 refine aB.go s9 rfl fun B Q hB hQ=> ?_
 have⟨hF,hP,hZ,gA⟩:=bH
 cases l with
 | nil=>
  repeat' (first
 | simp only [go_sem,hF,hP,hZ,gA]
 | (with_reducible refine aG hQ ?_;simp only [ay,az,Option.some.injEq,exists_eq_left',go_sem,hF,hP,hZ,gA];repeat' (first | exact Ok.out | with_reducible refine aI ?_ ?_ | (simp;done))))
  refine Ih (fun _=> ?_) ?_
  ·repeat' (first
 | simp only [go_sem,hF,hP,hZ,gA,jr,true_or,Nat.zero_le]
 | (with_reducible refine aG hQ ?_;simp only [ay,az,Option.some.injEq,exists_eq_left',go_sem,hF,hP,hZ,gA];repeat' (first | exact Ok.out | with_reducible refine aI ?_ ?_ | (simp;done))))
  ·repeat' (first
 | simp only [go_sem,hF,hP,hZ,gA,jr,true_or,Nat.zero_le]
 | (with_reducible refine aG hQ ?_;simp only [ay,az,Option.some.injEq,exists_eq_left',go_sem,hF,hP,hZ,gA];repeat' (first | exact Ok.out | with_reducible refine aI ?_ ?_ | (simp;done))))
 | cons x l=>
  have e:((x::l).map fK).length*(24+1)≤bm:=by simp only [List.length_map,bm];omega
  have e2:=fun s=>Dz (size:=2) (z:=2) (g:= .shared) (s:=s) e (by simp)
  simp only [List.map_cons,encStr]at e2
  repeat' (first
 | simp only [go_sem,hF,hP,hZ,gA,e2]
 | (with_reducible refine aG hQ ?_;simp only [ay,az,Option.some.injEq,exists_eq_left',go_sem,hF,hP,hZ,gA];repeat' (first | exact Ok.out | with_reducible refine aI ?_ ?_ | (simp;done))))
theorem abQ : ∀ n,n<1073741824→∀ x:Ex,x.size≤n→aB Tryz.prog lQ [.agg (bu x)] S0 (.agg (bu x)) S0:=by
 intro n
 induction n with
 | zero=>rintro _ ⟨op,m,name,kids⟩ h;simp only [Ex.size]at h;omega
 | succ n Qh=>
 rintro hn ⟨op,m,name,kids⟩ hx
 have hk : ∀ y∈kids,∀ s,aB Tryz.prog lQ [.agg (bu y)] s (.agg (bu y)) s:=fun y hy s=>
  (Qh (by omega) y (by simp only [Ex.size]at hx;have:=Ex.bV hy;omega)).pure (by simp [D.bp,D.ok,gE]) (by simp [D.ok,gE]) s
 have hlen:kids.length<1073741824:=by simp only [Ex.size]at hx;have:=Ex.cP kids;omega
 unfold S0
 refine aB.go Gz rfl fun B Q hB hQ=> ?_
 have⟨hF,hP,hZ,gA⟩:=bH
 repeat' (first
 | simp only [go_sem,hF,hP,hZ,gA]
 | (with_reducible refine aG hQ ?_;simp only [ay,az,Option.some.injEq,exists_eq_left',go_sem,hF,hP,hZ,gA];repeat' (first | exact Ok.out | with_reducible refine aI ?_ ?_ | (simp;done))))
 refine bk.qB 0 3 4 rfl rfl ?_
 simp only [go_sem,hF,hP,hZ,gA]
 refine cU 2 1 (bk.ind (ι:=List Ex×Nat×List Ex) (fun i=>kids.drop i.2.1=i.1∧i.2.1=i.2.2.length∧i.2.2++i.1=kids) (fun i=>i.1.length)
  (fun i=> [(1, .ptr 0 0),(2, .ptr 1 0),(9, .slice .shared 4 (kids.map bu)),(10, .int .i64 (kids.length:Int)),(11, .int .i64 (i.2.1:Int))])
  (fun i=>⟨[[.int .i64 op, .int .i64 m, .str name, .slice (.tok 0) 4 (i.2.2.map bu)],bu mU],[some i.2.1]⟩) ?_ (kids,0,[]) ⟨rfl,rfl,rfl⟩)
 rintro⟨rest,k,acc⟩ ⟨h1,h2,h3⟩ IH
 dsimp only at h1 h2 h3
 subst h2
 cases rest with
 | nil=>
  have hF:=drop_nil h1
  rw [List.append_nil]at h3
  subst h3
  repeat' (first
 | simp only [go_sem,hF,hP,hZ,gA]
 | (with_reducible refine aG hQ ?_;simp only [ay,az,Option.some.injEq,exists_eq_left',go_sem,hF,hP,hZ,gA];repeat' (first | exact Ok.out | with_reducible refine aI ?_ ?_ | (simp;done))))
 | cons y rest=>
  obtain⟨hP,g2,hF,g4⟩:=drop_cons h1
  have hZ:acc.length<4611686018427387904:=by omega
  have dH:(acc.length+1)*57≤bm:=by simp only [bm];omega
  have hy:=hk y (List.mem_of_getElem? hP)
  repeat' (first
 | simp only [go_sem,hF,hP,hZ,gA,dH]
 | (with_reducible refine CU (hy _) ?_)
 | (with_reducible refine aG hQ ?_;simp only [ay,az,Option.some.injEq,exists_eq_left',go_sem,hF,hP,hZ,gA];repeat' (first | exact Ok.out | with_reducible refine aI ?_ ?_ | (simp;done))))
  refine cU 2 1 (IH (rest,acc.length+1,acc++ [y]) ⟨g2,by simp,by simp only [List.append_assoc,List.cons_append,List.nil_append];exact h3⟩ (Nat.lt_succ_self _))
theorem QI {x:Ex} (h:x.size<1073741824) (s:St):aB Tryz.prog lQ [.agg (bu x)] s (.agg (bu x)) s:=
 (abQ x.size h x (Nat.le_refl _)).pure (by simp [D.bp,D.ok,gE]) (by simp [D.ok,gE]) s
end Go.Abs

/-! Tree2 -/

namespace Go.Abs
set_option maxRecDepth 8000
open Go.Proofs
abbrev WN (b:Bool) (N:Nat):Prop:=∀ l:List Sm,Sm.aX l<N→∀ n:Nat,n+Sm.aX l<1073741824→∀ s:St,
 aB Tryz.prog j7 [.slice .shared 13 (l.map aU), .int .i64 (n:Int), .bool b] s (.tuple [.slice .shared 13 ((Sm.cz b n l).1.map aU), .int .i64 ((Sm.cz b n l).2:Int)]) s
theorem T9 {N:Nat} (ih:WN true N) (l:List Sm) (hl:Sm.aX l<N+1) (n:Nat) (hn:n+Sm.aX l<1073741824) :
 aB Tryz.prog j7 [.slice .shared 13 (l.map aU), .int .i64 (n:Int), .bool true] S0 (.tuple [.slice .shared 13 ((Sm.cz true n l).1.map aU), .int .i64 ((Sm.cz true n l).2:Int)]) S0:=by
 unfold S0
 refine aB.go De rfl fun B Q hB hQ=> ?_
 have⟨hF,hP,hZ,gA⟩:=bH
 repeat' (first
 | simp only [go_sem,hF,hP,hZ,gA]
 | (with_reducible refine aG hQ ?_;simp only [ay,az,Option.some.injEq,exists_eq_left',go_sem,hF,hP,hZ,gA];repeat' (first | exact Ok.out | with_reducible refine aI ?_ ?_ | (simp;done))))
 have hlen:l.length<1073741824:=by have:=Sm.cP l;omega
 refine bk.ov 8 13 rfl ?_
 simp only [go_sem,hF,hP,hZ,gA]
 refine cU 0 1 (bk.ind (ι:=List Sm×Nat×List Sm×Nat) (fun i=>l.drop i.2.1=i.1∧i.2.1=i.2.2.1.length∧Sm.cz true n l=(i.2.2.1++(Sm.cz true i.2.2.2 i.1).1,(Sm.cz true i.2.2.2 i.1).2)∧i.2.2.2+Sm.aX i.1≤n+Sm.aX l) (fun i=>i.1.length)
  (fun i=> [(1, .int .i64 (i.2.2.2:Int)),(2, .bool true),(8, .slice (.tok 0) 13 (i.2.2.1.map aU)),(14, .slice .shared 13 (l.map aU)),(15, .int .i64 (l.length:Int)),(16, .int .i64 (i.2.1:Int))])
  (fun i=>⟨[],[some i.2.1]⟩) ?_ (l,0,[],n) ⟨rfl,rfl,rfl,Nat.le_refl _⟩)
 rintro⟨rest,k,acc,m⟩ ⟨h1,h2,h3,h4⟩ IH
 dsimp only at h1 h2 h3 h4
 subst h2
 cases rest with
 | nil=>
  have hF:=drop_nil h1
  simp only [Sm.cz,List.append_nil]at h3
  rw [h3]at hQ
  repeat' (first
 | simp only [go_sem,hF,hP,hZ,gA]
 | (with_reducible refine aG hQ ?_;simp only [ay,az,Option.some.injEq,exists_eq_left',go_sem,hF,hP,hZ,gA];repeat' (first | exact Ok.out | with_reducible refine aI ?_ ?_ | (simp;done))))
 | cons y rest=>
  obtain⟨hP,g2,hF,g4⟩:=drop_cons h1
  simp only [Sm.aX]at h4 hl
  have hm:m<4611686018427387904:=by omega
  have hk:acc.length<4611686018427387904:=by omega
  have dK:y.size≤N:=by have:=Sm.bV (List.mem_of_getElem? hP);omega
  obtain⟨id,kind,labels,name,proc,x,has,args,aY,aP⟩:=y
  simp only [Sm.size]at dK h4
  have dH:(acc.length+1)*209≤bm:=by simp only [bm];omega
  have hx:=fun s=>QI (x:=x) (by omega) s
  simp only [gk]at hx
  have tn:=fun g s=>vP (l:=labels) (by omega) g s
  have tv:=Ar.cP args
  repeat' (first
 | simp only [go_sem,hF,hP,hZ,gA,aM hm]
 | (with_reducible refine CU (tn _ _) ?_)
 | (with_reducible refine CU (hx _) ?_)
 | (with_reducible refine aG hQ ?_;simp only [ay,az,Option.some.injEq,exists_eq_left',go_sem,hF,hP,hZ,gA];repeat' (first | exact Ok.out | with_reducible refine aI ?_ ?_ | (simp;done))))
  refine bk.qB 1 10 6 rfl rfl ?_
  simp only [go_sem,hF,hP,hZ,gA]
  refine cU 2 2 (bk.ind (ι:=List Ar×Nat×List Ar) (fun i=>args.drop i.2.1=i.1∧i.2.1=i.2.2.length∧i.2.2++i.1=args) (fun i=>i.1.length)
   (fun i=> [(1, .int .i64 ((m+1:Nat):Int)),(2, .bool true),(8, .slice (.tok 0) 13 (acc.map aU)),(10, .ptr 0 0),(11, .ptr 1 0),(14, .slice .shared 13 (l.map aU)),(15, .int .i64 (l.length:Int)),(16, .int .i64 (acc.length:Int)),
    (36, .slice .shared 6 (args.map ej)),(37, .int .i64 (args.length:Int)),(38, .int .i64 (i.2.1:Int))])
   (fun i=>⟨[aU ⟨id,kind,labels,name,proc,x,has,args,aY,aP⟩,[.int .i64 ((m+1:Nat):Int), .int .i64 kind, .slice .shared 1 (labels.map encStr), .str name, .str proc, .int .i64 x.op, .int .i64 x.n, .str x.name, .slice .shared 4 (x.kids.map bu), .bool has, .slice (.tok 1) 6 (i.2.2.map ej), .slice .shared 13 (aY.map aU), .slice .shared 13 (aP.map aU)]],[some acc.length,some i.2.1]⟩) ?_ (args,0,[]) ⟨rfl,rfl,rfl⟩)
  rintro⟨yA,ka,uT⟩ ⟨j1,j2,j3⟩ IHa
  dsimp only at j1 j2 j3
  subst j2
  cases yA with
  | nil=>
   have hF:=drop_nil j1
   rw [List.append_nil]at j3
   subst j3
   have b1:=Sm.nI true (m+1) aY
   have b2:=Sm.nI true (Sm.cz true (m+1) aY).2 aP
   have c1:=ih aY (by omega) (m+1) (by omega)
   have c2:=ih aP (by omega) (Sm.cz true (m+1) aY).2 (by omega)
   repeat' (first
 | simp only [go_sem,hF,hP,hZ,gA,dH]
 | (with_reducible refine CU (c1 _) ?_)
 | (with_reducible refine CU (c2 _) ?_)
 | (with_reducible refine aG hQ ?_;simp only [ay,az,Option.some.injEq,exists_eq_left',go_sem,hF,hP,hZ,gA];repeat' (first | exact Ok.out | with_reducible refine aI ?_ ?_ | (simp;done))))
   refine dZ 0 1 ?_ ?_ (IH (rest,acc.length+1,acc++ [(Sm.num true m ⟨id,kind,labels,name,proc,x,has,uT,aY,aP⟩).1],(Sm.num true m ⟨id,kind,labels,name,proc,x,has,uT,aY,aP⟩).2) ⟨g2,by simp,by rw [h3];simp [Sm.cz],by simp only [Sm.num];omega⟩ (Nat.lt_succ_self _))
   ·(simp only [go_sem,hF,hP,hZ,gA,aM hk,Sm.num];try exact bO)
   ·(simp only [go_sem,hF,hP,hZ,gA,aM hk,Sm.num];try exact bO)
  | cons a yA=>
   obtain⟨hP,g2,hF,g4⟩:=drop_cons j1
   have ha:a.x.size<1073741824:=by have:=Ar.bV (List.mem_of_getElem? hP);omega
   have zQ:uT.length<4611686018427387904:=by omega
   have DA:(uT.length+1)*81≤bm:=by simp only [bm];omega
   have QJ:=fun s=>QI ha s
   simp only [gk]at QJ
   obtain⟨Ua,N1,ax⟩:=a
   repeat' (first
 | simp only [go_sem,hF,hP,hZ,gA,DA]
 | (with_reducible refine CU (QJ _) ?_)
 | (with_reducible refine aG hQ ?_;simp only [ay,az,Option.some.injEq,exists_eq_left',go_sem,hF,hP,hZ,gA];repeat' (first | exact Ok.out | with_reducible refine aI ?_ ?_ | (simp;done))))
   refine dZ 2 2 ?_ ?_ (IHa (yA,uT.length+1,uT++ [⟨Ua,N1,ax⟩]) ⟨g2,by simp,by simp only [List.append_assoc,List.cons_append,List.nil_append];exact j3⟩ (Nat.lt_succ_self _))
   ·(simp only [go_sem,hF,hP,hZ,gA,aM zQ];try exact bO)
   ·(simp only [go_sem,hF,hP,hZ,gA,aM zQ];try exact bO)
theorem Yf : ∀ N,WN true N:=by
 intro N
 induction N with
 | zero=>intro l hl;exact absurd hl (Nat.not_lt_zero _)
 | succ N ih=>
  intro l hl n hn s
  exact(T9 ih l hl n hn).pure (by simp [D.bp,D.ok,Tag.ok,jD]) (by simp [D.bp,D.ok,Tag.ok,jD]) s
theorem afA {l:List Sm} {n:Nat} (h:n+Sm.aX l<1073741824) (s:St) :
 aB Tryz.prog j7 [.slice .shared 13 (l.map aU), .int .i64 (n:Int), .bool true] s (.tuple [.slice .shared 13 ((Sm.cz true n l).1.map aU), .int .i64 ((Sm.cz true n l).2:Int)]) s:=
 Yf _ l (Nat.lt_succ_self _) n h s
theorem Ub {p:Pg} (hp:p.size<1073741824):aB Tryz.prog pN [.agg (bC p)] S0 (.agg (bC p.number)) S0:=by
 obtain⟨globals,procs⟩:=p
 simp only [Pg.size]at hp
 have hlen:procs.length<1073741824:=by have:=Pc.cP procs;omega
 have WO:=fun g s=>vP (l:=globals) (by omega) g s
 unfold S0
 refine aB.go Db rfl fun B Q hB hQ=> ?_
 have⟨hF,hP,hZ,gA⟩:=bH
 repeat' (first
 | simp only [go_sem,hF,hP,hZ,gA]
 | (with_reducible refine CU (WO _ _) ?_)
 | (with_reducible first | refine bw fun hc=> ?_ | refine bx fun hc=> ?_ | refine bA (fun hc=> ?_) fun hc=> ?_) <;> (try simp only [hc,bs, ↓reduceIte]at h) <;> try simp only [hc]
 | (with_reducible refine aG hQ ?_;simp only [ay,az,bF,bG,go_sem,hF,hP,hZ,gA];repeat' (first | exact Ok.out | with_reducible refine aI ?_ ?_ | (simp;done))))
 refine bk.qB 2 1 5 rfl rfl ?_
 simp only [go_sem,hF,hP,hZ,gA]
 refine cU 3 1 (bk.ind (ι:=List Pc×Nat×List Pc×Nat) (fun i=>procs.drop i.2.1=i.1∧i.2.1=i.2.2.1.length∧Pc.cz 0 procs=i.2.2.1++Pc.cz i.2.2.2 i.1∧i.2.2.2+Pc.aX i.1≤Pc.aX procs) (fun i=>i.1.length)
  (fun i=> [(2, .ptr 1 0),(3, .int .i64 (i.2.2.2:Int)),(4, .ptr 2 0),(13, .slice .shared 5 (procs.map bq)),(14, .int .i64 (procs.length:Int)),(15, .int .i64 (i.2.1:Int))])
  (fun i=>⟨[bC ⟨globals,procs⟩,bC BK,[.slice .shared 1 (globals.map encStr), .slice (.tok 0) 5 (i.2.2.1.map bq)]],[some i.2.1]⟩) ?_ (procs,0,[],0) ⟨rfl,rfl,rfl,by dsimp only;omega⟩)
 rintro⟨rest,k,acc,m⟩ ⟨h1,h2,h3,h4⟩ IH
 dsimp only at h1 h2 h3 h4
 subst h2
 cases rest with
 | nil=>
  have hF:=drop_nil h1
  simp only [Pc.cz,List.append_nil]at h3
  subst h3
  repeat' (first
 | simp only [go_sem,hF,hP,hZ,gA,Pg.number]
 | (with_reducible first | refine bw fun hc=> ?_ | refine bx fun hc=> ?_ | refine bA (fun hc=> ?_) fun hc=> ?_) <;> (try simp only [hc,bs, ↓reduceIte]at h) <;> try simp only [hc]
 | (with_reducible refine aG hQ ?_;simp only [ay,az,bF,bG,go_sem,hF,hP,hZ,gA,Pg.number];repeat' (first | exact Ok.out | with_reducible refine aI ?_ ?_ | (simp;done))))
 | cons y rest=>
  obtain⟨hP,g2,hF,g4⟩:=drop_cons h1
  simp only [Pc.aX]at h4
  have dK:=Pc.bV (List.mem_of_getElem? hP)
  obtain⟨name,params,vars,body,fin⟩:=y
  simp only [Pc.size]at dK h4
  have hk:acc.length<4611686018427387904:=by omega
  have dH:(acc.length+1)*113≤bm:=by simp only [bm];omega
  have c1:=fun g s=>T8 (l:=params) (by omega) g s
  have c2:=fun g s=>vP (l:=vars) (by omega) g s
  have c3:=fun g s=>vP (l:=fin) (by omega) g s
  have c4:=fun s=>afA (l:=body) (n:=m) (by omega) s
  have b1:=Sm.nI true m body
  repeat' (first
 | simp only [go_sem,hF,hP,hZ,gA,dH]
 | (with_reducible refine CU (c1 _ _) ?_)
 | (with_reducible refine CU (c2 _ _) ?_)
 | (with_reducible refine CU (c3 _ _) ?_)
 | (with_reducible refine CU (c4 _) ?_)
 | (with_reducible refine aG hQ ?_;simp only [ay,az,bF,bG,go_sem,hF,hP,hZ,gA];repeat' (first | exact Ok.out | with_reducible refine aI ?_ ?_ | (simp;done))))
  refine dZ 3 1 ?_ ?_ (IH (rest,acc.length+1,acc++ [⟨name,params,vars,(Sm.cz true m body).1,fin⟩],(Sm.cz true m body).2) ⟨g2,by simp,by rw [h3];simp [Pc.cz],by dsimp only;omega⟩ (Nat.lt_succ_self _))
  ·(simp only [go_sem,hF,hP,hZ,gA,aM hk];try exact bO)
  ·(simp only [go_sem,hF,hP,hZ,gA,aM hk];try exact bO)
theorem Uc {p q:Pg} (h:p.Ew=some q) (s:St):aB Tryz.prog pN [.agg (bC p)] s (.agg (bC q)) s:=by
 unfold Pg.Ew at h
 split at h
 ·cases h;exact(Ub ‹_›).pure (by simp [D.bp,D.ok,gl]) (by simp [D.ok,gl]) s
 ·cases h
end Go.Abs

/-! Sc1 -/

namespace Go.Abs
set_option maxRecDepth 8000
open Go.Proofs
def aor (x:aC):List aC→Bool
 | []=>false
 | s::l=>if x==s then true else aor x l
def pD (pre:List aC):List aC→Bool
 | []=>false
 | s::l=>if er pre s then true else pD (pre++ [s]) l
def ei (l:List aC):Bool:=pD [] l
theorem QK {l:List aC} {k:Nat} {a:aC} (h:l[k]? = some a):l.take (k+1)=l.take k++ [a]:=by rw [List.take_add_one,h];rfl
theorem Cm {l:List aC} (hl:l.length<4611686018427387904) (g:Tag) (s:St):aB Tryz.prog nC [.slice g 1 (l.map encStr)] s (.bool (ei l)) s:=by
 refine aB.QB (d':= .slice .shared 1 (l.map encStr)) ?_ (Wk.shared _ _ _)
 refine aB.pure ?_ (by simp [D.bp,D.ok,Tag.ok,eC]) rfl s
 generalize h:ei l=p
 simp only [ei]at h
 unfold S0
 refine aB.go C9 rfl fun B Q hB hQ=> ?_
 have⟨hF,hP,hZ,gA⟩:=bH
 repeat' (first
 | simp only [go_sem,hF,hP,hZ,gA]
 | (with_reducible first | refine bw fun hc=> ?_ | refine bx fun hc=> ?_ | refine bA (fun hc=> ?_) fun hc=> ?_) <;> (try simp only [hc,bs, ↓reduceIte]at h) <;> try simp only [hc]
 | (with_reducible refine aG hQ ?_;(try cases h);simp only [ay,az,bF,bG,go_sem,hF,hP,hZ,gA];repeat' (first | exact Ok.out | with_reducible refine aI ?_ ?_ | (simp;done))))
 refine cU 0 0 (bk.ind (ι:=List aC×Nat) (fun i=>l.drop i.2=i.1∧pD (l.take i.2) i.1=p) (fun i=>i.1.length)
  (fun i=> [(0, .slice .shared 1 (l.map encStr)),(5, .slice .shared 1 (l.map encStr)),(6, .int .i64 (l.length:Int)),(7, .int .i64 (i.2:Int))]) (fun i=>⟨[],[]⟩) ?_ (l,0) ⟨rfl,h⟩)
 rintro⟨rest,k⟩ ⟨h1,h⟩ IH
 dsimp only at h1 h
 cases rest with
 | nil=>
  have hF:=drop_nil h1
  simp only [pD]at h
  repeat' (first
 | simp only [go_sem,hF,hP,hZ,gA]
 | (with_reducible first | refine bw fun hc=> ?_ | refine bx fun hc=> ?_ | refine bA (fun hc=> ?_) fun hc=> ?_) <;> (try simp only [hc,bs, ↓reduceIte]at h) <;> try simp only [hc]
 | (with_reducible refine aG hQ ?_;(try cases h);simp only [ay,az,bF,bG,go_sem,hF,hP,hZ,gA];repeat' (first | exact Ok.out | with_reducible refine aI ?_ ?_ | (simp;done))))
 | cons a rest=>
  obtain⟨hP,g2,hF,g4⟩:=drop_cons h1
  have cv:k<4611686018427387904:=by omega
  simp only [pD]at h
  have hc:=jb (l:=l.take k) (by rw [List.length_take];omega) a
  have e1:List.drop 0 (List.take k (l.map encStr))=(l.take k).map encStr:=by simp [List.map_take]
  have c1:((0:Int)≤(k:Int))=True:=by simp
  have c2:((k:Int)≤(l.length:Int))=True:=by simp only [eq_iff_iff,iff_true];omega
  have e2:List.take k (l.map encStr)=(l.take k).map encStr:=by simp [List.map_take]
  repeat' (first
 | simp only [go_sem,hF,hP,hZ,gA,e1,e2,c1,c2,or_true,true_and,and_self,ite_self,Int.toNat_natCast,List.drop_zero]
 | (with_reducible refine CU (hc _ _) ?_)
 | (with_reducible first | refine bw fun hc=> ?_ | refine bx fun hc=> ?_ | refine bA (fun hc=> ?_) fun hc=> ?_) <;> (try simp only [hc,bs, ↓reduceIte]at h) <;> try simp only [hc]
 | (with_reducible refine aG hQ ?_;(try cases h);simp only [ay,az,bF,bG,go_sem,hF,hP,hZ,gA,e1,e2,c1,c2,or_true,true_and,and_self,ite_self,Int.toNat_natCast,List.drop_zero];repeat' (first | exact Ok.out | with_reducible refine aI ?_ ?_ | (simp;done))))
  refine dZ 0 0 ?_ ?_ (IH (rest,k+1) ⟨g2,by dsimp only;rw [QK (by assumption)];exact h⟩ (Nat.lt_succ_self _))
  ·(simp only [go_sem,hF,hP,hZ,gA,aM cv];try exact bO)
  ·(simp only [go_sem,hF,hP,hZ,gA,aM cv];try exact bO)
end Go.Abs

/-! Sc2 -/

namespace Go.Abs
set_option maxRecDepth 8000
open Go.Proofs
def DB (vars globals:List aC) (name:aC):List Pm→Int
 | []=>if er vars name then 4 else if er globals name then 1 else 0
 | a::l=>if a.name==name then(if a.ref then 3 else 2)else DB vars globals name l
def Pc.kd (p:Pg) (f:Pc) (name:aC):Int:=DB f.vars p.globals name f.params
theorem IS {p:Pg} {f:Pc} (hp:f.params.length<1000000000) (hv:f.vars.length<1000000000) (hg:p.globals.length<1000000000) (name:aC) (s:St):aB Tryz.prog uG [.agg (bC p), .agg (bq f), .str name] s (.int .i64 (f.kd p name)) s:=by
 refine aB.pure ?_ (by simp [D.bp,D.ok,gl,wq]) rfl s
 have rk:=jb (l:=f.vars) (by omega) name
 have xg:=jb (l:=p.globals) (by omega) name
 generalize h:f.kd p name=q
 simp only [Pc.kd]at h
 unfold S0
 refine aB.go ES rfl fun B Q hB hQ=> ?_
 have⟨hF,hP,hZ,gA⟩:=bH
 repeat' (first
 | simp only [go_sem,hF,hP,hZ,gA]
 | (with_reducible refine aG hQ ?_;simp only [ay,az,Option.some.injEq,exists_eq_left',go_sem,hF,hP,hZ,gA];repeat' (first | exact Ok.out | with_reducible refine aI ?_ ?_ | (simp;done))))
 refine cU 2 0 (bk.ind (ι:=List Pm×Nat) (fun i=>f.params.drop i.2=i.1∧DB f.vars p.globals name i.1=q) (fun i=>i.1.length)
  (fun i=> [(2, .str name),(3, .ptr 0 0),(4, .ptr 1 0),(10, .slice .shared 2 (f.params.map fK)),(11, .int .i64 (f.params.length:Int)),(12, .int .i64 (i.2:Int))]) (fun i=>⟨[bC p,bq f],[]⟩) ?_ (f.params,0) ⟨rfl,h⟩)
 rintro⟨rest,k⟩ ⟨h1,h⟩ IH
 dsimp only at h1 h
 cases rest with
 | nil=>
  have hF:=drop_nil h1
  simp only [DB]at h
  rcases Bool.eq_false_or_eq_true (er f.vars name)with b1 | b1
  ·simp only [b1,if_true]at h
   subst h
   repeat' (first
 | simp only [go_sem,hF,hP,hZ,gA,b1]
 | (with_reducible refine CU (rk _ _) ?_)
 | (with_reducible refine CU (xg _ _) ?_)
 | (with_reducible refine aG hQ ?_;simp only [ay,az,Option.some.injEq,exists_eq_left',go_sem,hF,hP,hZ,gA];repeat' (first | exact Ok.out | with_reducible refine aI ?_ ?_ | (simp;done))))
  ·simp only [b1,Bool.false_eq_true,if_false]at h
   rcases Bool.eq_false_or_eq_true (er p.globals name)with b2 | b2
   ·simp only [b2,if_true]at h
    subst h
    repeat' (first
 | simp only [go_sem,hF,hP,hZ,gA,b1,b2]
 | (with_reducible refine CU (rk _ _) ?_)
 | (with_reducible refine CU (xg _ _) ?_)
 | (with_reducible refine aG hQ ?_;simp only [ay,az,Option.some.injEq,exists_eq_left',go_sem,hF,hP,hZ,gA];repeat' (first | exact Ok.out | with_reducible refine aI ?_ ?_ | (simp;done))))
   ·simp only [b2,Bool.false_eq_true,if_false]at h
    subst h
    repeat' (first
 | simp only [go_sem,hF,hP,hZ,gA,b1,b2]
 | (with_reducible refine CU (rk _ _) ?_)
 | (with_reducible refine CU (xg _ _) ?_)
 | (with_reducible refine aG hQ ?_;simp only [ay,az,Option.some.injEq,exists_eq_left',go_sem,hF,hP,hZ,gA];repeat' (first | exact Ok.out | with_reducible refine aI ?_ ?_ | (simp;done))))
 | cons a rest=>
  obtain⟨hP,g2,hF,g4⟩:=drop_cons h1
  have cv:k<4611686018427387904:=by omega
  simp only [DB]at h
  rcases Bool.eq_false_or_eq_true (a.name==name)with b1 | b1
  ·simp only [b1,if_true]at h
   rcases Bool.eq_false_or_eq_true a.ref with b2 | b2
   ·simp only [b2,if_true]at h
    subst h
    repeat' (first
 | simp only [go_sem,hF,hP,hZ,gA,b1,b2]
 | (with_reducible refine aG hQ ?_;simp only [ay,az,Option.some.injEq,exists_eq_left',go_sem,hF,hP,hZ,gA];repeat' (first | exact Ok.out | with_reducible refine aI ?_ ?_ | (simp;done))))
   ·simp only [b2,Bool.false_eq_true,if_false]at h
    subst h
    repeat' (first
 | simp only [go_sem,hF,hP,hZ,gA,b1,b2]
 | (with_reducible refine aG hQ ?_;simp only [ay,az,Option.some.injEq,exists_eq_left',go_sem,hF,hP,hZ,gA];repeat' (first | exact Ok.out | with_reducible refine aI ?_ ?_ | (simp;done))))
  ·simp only [b1,Bool.false_eq_true,if_false]at h
   repeat' (first
 | simp only [go_sem,hF,hP,hZ,gA,b1]
 | (with_reducible refine aG hQ ?_;simp only [ay,az,Option.some.injEq,exists_eq_left',go_sem,hF,hP,hZ,gA];repeat' (first | exact Ok.out | with_reducible refine aI ?_ ?_ | (simp;done))))
   refine dZ 2 0 ?_ ?_ (IH (rest,k+1) ⟨g2,h⟩ (Nat.lt_succ_self _))
   ·(simp only [go_sem,hF,hP,hZ,gA,aM cv];try exact bO)
   ·(simp only [go_sem,hF,hP,hZ,gA,aM cv];try exact bO)
def jc (name:aC):List Pc→Option Pc
 | []=>none
 | f::l=>if f.name==name then some f else jc name l
def Pg.find (p:Pg) (name:aC):Option Pc:=jc name p.procs
def pc0:Pc:=⟨[],[],[],[],[]⟩
def ao4 (r:Option Pc):D:= .tuple [.agg (bq (r.getD pc0)), .bool r.isSome]
end Go.Abs

/-! Sc3 -/

namespace Go.Abs
set_option maxRecDepth 8000
open Go.Proofs
def Pc.Av (f:Pc):List aC:=f.params.map (·.name)
def Pc.own (f:Pc):List aC:=f.Av++f.vars
theorem afB {f:Pc} (hp:f.params.length<1000000) (hv:f.vars.length<1000000) (s:St):aB Tryz.prog wx [.agg (bq f)] s (.slice .shared 1 (f.own.map encStr)) s:=by
 refine aB.pure ?_ (by simp [D.bp,D.ok,wq]) (by simp only [D.ok,Tag.ok,eC];rfl) s
 generalize hR:f.own=R
 simp only [Pc.own]at hR
 unfold S0
 refine aB.go Gw rfl fun B Q hB hQ=> ?_
 have⟨hF,hP,hZ,gA⟩:=bH
 repeat' (first
 | simp only [go_sem,hF,hP,hZ,gA]
 | (with_reducible refine aG hQ ?_;simp only [ay,az,Option.some.injEq,exists_eq_left',go_sem,hF,hP,hZ,gA];repeat' (first | exact Ok.out | with_reducible refine aI ?_ ?_ | (simp;done))))
 refine bk.ov 3 1 rfl ?_
 simp only [go_sem,hF,hP,hZ,gA]
 refine cU 1 1 (bk.ind (ι:=List Pm×Nat×List aC×Nat) (fun i=>f.params.drop i.2.1=i.1∧i.2.2.1++i.1.map (·.name)=f.Av∧i.2.2.2=i.2.2.1.length) (fun i=>i.1.length)
  (fun i=> [(1, .ptr 0 0),(3, .slice (.tok 0) 1 (i.2.2.1.map encStr)),(7, .slice .shared 2 (f.params.map fK)),(8, .int .i64 (f.params.length:Int)),(9, .int .i64 (i.2.1:Int))]) (fun i=>⟨[bq f],[some i.2.2.2]⟩) ?_ (f.params,0,[],0) ⟨rfl,rfl,rfl⟩)
 rintro⟨rest,k,out,n⟩ ⟨h1,h2,h3⟩ IH
 dsimp only at h1 h2 h3
 subst h3
 have hlo:out.length+rest.length<1000000:=by
  have:=congrArg List.length h2
  simp only [List.length_append,List.length_map,Pc.Av]at this
  omega
 cases rest with
 | nil=>
  have hF:=drop_nil h1
  simp only [List.map_nil,List.append_nil]at h2
  subst hR
  rw [← h2]at hQ
  have fZ:=j9 (l:=out) (nx:=f.vars) rfl (by omega) (g:= .shared)
  repeat' (first
 | simp only [go_sem,hF,hP,hZ,gA,fZ]
 | (with_reducible refine aG hQ ?_;simp only [ay,az,Option.some.injEq,exists_eq_left',go_sem,hF,hP,hZ,gA];repeat' (first | exact Ok.out | with_reducible refine aI ?_ ?_ | (simp;done))))
 | cons a rest=>
  obtain⟨hP,g2,hF,g4⟩:=drop_cons h1
  have cv:k<4611686018427387904:=by omega
  have hZ:(out.length+1)*17≤bm:=by unfold bm;omega
  repeat' (first
 | simp only [go_sem,hF,hP,hZ,gA]
 | (with_reducible refine aG hQ ?_;simp only [ay,az,Option.some.injEq,exists_eq_left',go_sem,hF,hP,hZ,gA];repeat' (first | exact Ok.out | with_reducible refine aI ?_ ?_ | (simp;done))))
  refine dZ 1 1 ?_ ?_ (IH (rest,k+1,out++ [a.name],out.length+1) ⟨g2,by rw [← h2];simp,by simp⟩ (Nat.lt_succ_self _))
  ·(simp only [go_sem,hF,hP,hZ,gA,aM cv,List.map_append,List.map_cons,List.map_nil,encStr];try exact bO)
  ·(simp only [go_sem,hF,hP,hZ,gA,aM cv,List.map_append,List.map_cons,List.map_nil,encStr];try exact bO)
def pO:aC:= [109,97,105,110]
def Sm.known (p:Pg) (f:Pc) (procs:List aC) (v:Sm):Bool:=
 !(v.said.any fun n=>f.kd p n==0) && (v.kind != 4 || (v.proc != pO && er procs v.proc))
structure Pc.Small (p:Pg) (f:Pc):Prop where
 par:f.params.length<1000000
 vars:f.vars.length<1000000
 yu:p.globals.length<1000000
def Bd (p:Pg) (f:Pc):List aC→Bool
 | []=>true
 | n::l=>if f.kd p n==0 then false else Bd p f l
theorem FQ (p:Pg) (f:Pc) : ∀ l,Bd p f l = !(l.any fun n=>f.kd p n==0)
 | []=>rfl
 | n::l=>by
  simp only [Bd,List.any_cons,FQ p f l]
  cases (f.kd p n==0) <;> simp
theorem IT (v:Sm) (h:v.pC):v.said.length<3000000:=by
 have : ∀ (l:List Ar) (out:List aC),(Ar.said out l).length≤out.length+2*Ar.aX l:=by
  intro l
  induction l with
  | nil=>intro out;simp [Ar.said]
  | cons a l ih=>
   intro out
   simp only [Ar.said,Ar.aX]
   refine Nat.le_trans (ih _) ?_
   have:=kD a.x
   have:1≤a.x.size:=by obtain⟨_,_,_,_⟩:=a.x;simp [Ex.size]
   simp only [List.length_append]
   split <;> simp <;> omega
 have h1:=this v.args (v.tV++v.x.names)
 have h2:=kD v.x
 have h3:=h.2.2
 have h4:v.tV.length≤1:=by unfold Sm.tV;split <;> simp
 simp only [List.length_append]at h1
 unfold Sm.said
 omega
theorem Yg {p:Pg} {f:Pc} {procs:List aC} {v:Sm} (hs:f.Small p) (BP:procs.length<1000000) (hv:v.pC) (s:St):aB Tryz.prog pM [.agg (bC p), .agg (bq f), .slice .shared 1 (procs.map encStr), .agg (aU v)] s (.bool (v.known p f procs)) s:=by
 refine aB.pure ?_ (by simp [D.bp,D.ok,gl,wq,jZ,Tag.ok,eC]) rfl s
 have hn:=fun s=>Au hv s
 have hk:=fun n s=>IS (p:=p) (f:=f) (by have:=hs.par;omega) (by have:=hs.vars;omega) (by have:=hs.yu;omega) n s
 have abS:=jb (l:=procs) (by omega) v.proc
 have hl:=IT v hv
 generalize h:v.known p f procs=q
 simp only [Sm.known, ← FQ]at h
 unfold S0
 refine aB.go Da rfl fun B Q hB hQ=> ?_
 have⟨hF,hP,hZ,gA⟩:=bH
 repeat' (first
 | simp only [go_sem,hF,hP,hZ,gA]
 | (with_reducible refine CU (hn _) ?_)
 | (with_reducible refine aG hQ ?_;simp only [ay,az,Option.some.injEq,exists_eq_left',go_sem,hF,hP,hZ,gA];repeat' (first | exact Ok.out | with_reducible refine aI ?_ ?_ | (simp;done))))
 refine cU 3 0 (bk.ind (ι:=List aC×Nat) (fun i=>v.said.drop i.2=i.1∧(Bd p f i.1 && (v.kind != 4 || (v.proc != pO && er procs v.proc)))=q) (fun i=>i.1.length)
  (fun i=> [(2, .slice .shared 1 (procs.map encStr)),(4, .ptr 0 0),(5, .ptr 1 0),(7, .ptr 2 0),(12, .slice .shared 1 (v.said.map encStr)),(13, .int .i64 (v.said.length:Int)),(14, .int .i64 (i.2:Int))]) (fun i=>⟨[bC p,bq f,aU v],[]⟩) ?_ (v.said,0) ⟨rfl,h⟩)
 rintro⟨rest,k⟩ ⟨h1,h⟩ IH
 dsimp only at h1 h
 cases rest with
 | nil=>
  have hF:=drop_nil h1
  simp only [Bd,Bool.true_and]at h
  rcases Bool.eq_false_or_eq_true (v.kind != 4)with b1 | b1
  ·simp only [b1,Bool.true_or]at h
   subst h
   repeat' (first
 | simp only [go_sem,hF,hP,hZ,gA,b1]
 | (with_reducible refine aG hQ ?_;simp only [ay,az,Option.some.injEq,exists_eq_left',go_sem,hF,hP,hZ,gA];repeat' (first | exact Ok.out | with_reducible refine aI ?_ ?_ | (simp;done))))
  ·simp only [b1,Bool.false_or]at h
   rcases Bool.eq_false_or_eq_true (v.proc != pO)with b2 | b2
   ·simp only [b2,Bool.true_and]at h
    unfold pO at b2
    have b3:(v.proc == [109,97,105,110]) = !(v.proc != [109,97,105,110]):=by simp only [bne,Bool.not_not]
    rw [b2]at b3
    simp only [Bool.not_true,Bool.not_false]at b3
    subst h
    repeat' (first
 | simp only [go_sem,hF,hP,hZ,gA,b1,b2,b3]
 | (with_reducible refine CU (abS _ _) ?_)
 | (with_reducible refine aG hQ ?_;simp only [ay,az,Option.some.injEq,exists_eq_left',go_sem,hF,hP,hZ,gA];repeat' (first | exact Ok.out | with_reducible refine aI ?_ ?_ | (simp;done))))
   ·simp only [b2,Bool.false_and]at h
    unfold pO at b2
    have b3:(v.proc == [109,97,105,110]) = !(v.proc != [109,97,105,110]):=by simp only [bne,Bool.not_not]
    rw [b2]at b3
    simp only [Bool.not_true,Bool.not_false]at b3
    subst h
    repeat' (first
 | simp only [go_sem,hF,hP,hZ,gA,b1,b2,b3]
 | (with_reducible refine CU (abS _ _) ?_)
 | (with_reducible refine aG hQ ?_;simp only [ay,az,Option.some.injEq,exists_eq_left',go_sem,hF,hP,hZ,gA];repeat' (first | exact Ok.out | with_reducible refine aI ?_ ?_ | (simp;done))))
 | cons a rest=>
  obtain⟨hP,g2,hF,g4⟩:=drop_cons h1
  have cv:k<4611686018427387904:=by omega
  simp only [Bd]at h
  rcases Bool.eq_false_or_eq_true (f.kd p a==0)with b1 | b1
  ·simp only [b1,if_true,Bool.false_and]at h
   subst h
   repeat' (first
 | simp only [go_sem,hF,hP,hZ,gA,b1]
 | (with_reducible refine CU (hk _ _) ?_)
 | (with_reducible refine aG hQ ?_;simp only [ay,az,Option.some.injEq,exists_eq_left',go_sem,hF,hP,hZ,gA];repeat' (first | exact Ok.out | with_reducible refine aI ?_ ?_ | (simp;done))))
  ·simp only [b1,Bool.false_eq_true,if_false]at h
   repeat' (first
 | simp only [go_sem,hF,hP,hZ,gA,b1]
 | (with_reducible refine CU (hk _ _) ?_)
 | (with_reducible refine aG hQ ?_;simp only [ay,az,Option.some.injEq,exists_eq_left',go_sem,hF,hP,hZ,gA];repeat' (first | exact Ok.out | with_reducible refine aI ?_ ?_ | (simp;done))))
   refine dZ 3 0 ?_ ?_ (IH (rest,k+1) ⟨g2,h⟩ (Nat.lt_succ_self _))
   ·(simp only [go_sem,hF,hP,hZ,gA,aM cv];try exact bO)
   ·(simp only [go_sem,hF,hP,hZ,gA,aM cv];try exact bO)
end Go.Abs

/-! ScP -/

namespace Go.Abs
theorem KW : ∀ (l pre:List aC),pD pre l=true↔(∃ x∈l,x∈pre)∨¬ l.Nodup
 | [],pre=>by simp [pD]
 | s::l,pre=>by
  simp only [pD]
  by_cases h:er pre s=true
  ·simp only [h,if_true,true_iff]
   exact .inl ⟨s,List.mem_cons_self,(fW _ _).1 h⟩
  ·have h':s∉pre:=fun m=>h ((fW _ _).2 m)
   simp only [h,if_false,Bool.false_eq_true]
   rw [KW l (pre++ [s])]
   simp only [List.mem_append,List.mem_singleton,List.mem_cons,List.nodup_cons,exists_eq_or_imp]
   constructor
   ·rintro(⟨x,m,h1 | h1⟩ | h1)
    ·exact .inl (.inr ⟨x,m,h1⟩)
    ·have h1:x=s:=by simpa using h1
     subst h1;exact .inr fun h=>h.1 m
    ·exact .inr fun h=>h1 h.2
   ·rintro((h1 | ⟨x,m,h1⟩) | h1)
    ·exact absurd h1 h'
    ·exact .inl ⟨x,m, .inl h1⟩
    ·by_cases m:s∈l
     ·exact .inl ⟨s,m, .inr (.inl rfl)⟩
     ·exact .inr fun h=>h1 ⟨m,h⟩
theorem qk (l:List aC):ei l=true↔¬ l.Nodup:=by
 unfold ei;rw [KW];simp
theorem QL (a b:List aC):ei (a++b)=(ei a || (ei b || b.any (er a))):=by
 have h:ei (a++b)=true↔(ei a || (ei b || b.any (er a)))=true:=by
  rw [qk,List.nodup_append]
  simp only [Bool.or_eq_true,qk,List.any_eq_true,fW]
  constructor
  ·intro h
   by_cases ha:a.Nodup
   ·by_cases hb:b.Nodup
    ·refine .inr (.inr (Classical.byContradiction fun hn=>h ⟨ha,hb,fun x hx y hy e=>hn ⟨y,hy,e ▸ hx⟩⟩))
    ·exact .inr (.inl hb)
   ·exact .inl ha
  ·rintro(h | h | ⟨x,h1,h2⟩) ⟨h3,h4,h5⟩
   ·exact h h3
   ·exact h h4
   ·exact h5 x h2 x h1 rfl
 cases h1:ei (a++b) <;> cases h2:(ei a || (ei b || b.any (er a))) <;> simp_all
theorem IU (name:aC) : ∀ (l:List Pc) (k:Nat),(jc name l=none∧nT name (k:Int) (l.map (·.name)) = -1)∨∃ f j,jc name l=some f∧l[j]? = some f∧nT name (k:Int) (l.map (·.name))=((k+j:Nat):Int)
 | [],k=> .inl ⟨rfl,rfl⟩
 | f::l,k=>by
  by_cases h:f.name=name
  ·subst h
   refine .inr ⟨f,0,by simp [jc],rfl,by simp [nT]⟩
  ·have h1:(f.name==name)=false:=by simp [h]
   have h2:(name==f.name)=false:=by simp [Ne.symm h]
   simp only [jc,h1,Bool.false_eq_true,if_false,List.map_cons,nT,h2]
   rcases IU name l (k+1)with ⟨g1,g2⟩ | ⟨g,j,g1,g2,g3⟩
   ·exact .inl ⟨g1,by rw [← g2];rfl⟩
   ·refine .inr ⟨g,j+1,g1,by simpa using g2, ?_⟩
    rw [show((k:Int)+1)=((k+1:Nat):Int)from rfl,g3]
    congr 1;omega
theorem p8 {name:aC} {f:Pc} : ∀ {l:List Pc},jc name l=some f→f∈l∧f.name=name
 | g::l,h=>by
  simp only [jc]at h
  split at h
  ·rename_i e;cases h;exact⟨List.mem_cons_self,by simpa using e⟩
  ·have:=p8 h;exact⟨List.mem_cons_of_mem _ this.1,this.2⟩
mutual
theorem QM (deep bY:Int) (aP:Bool) (out:List It) : ∀ s:Sm,∃ e,gy deep bY aP out s=out++e
 | ⟨id,kind,labels,name,proc,x,has,args,aY,e⟩=>by
  simp only [gy]
  split
  ·obtain⟨e1,h1⟩:=oG (deep+1) id false (out++ [⟨⟨id,kind,labels,name,proc,x,has,args,aY,e⟩,deep,bY,aP⟩]) aY
   obtain⟨e2,h2⟩:=oG (deep+1) id true (eA (deep+1) id false (out++ [⟨⟨id,kind,labels,name,proc,x,has,args,aY,e⟩,deep,bY,aP⟩]) aY) e
   rw [h2,h1]
   exact⟨_,by rw [List.append_assoc,List.append_assoc]⟩
  ·exact⟨_,rfl⟩
theorem oG (deep bY:Int) (aP:Bool) (out:List It) : ∀ l:List Sm,∃ e,eA deep bY aP out l=out++e
 | []=>⟨[],by simp [eA]⟩
 | s::l=>by
  simp only [eA]
  split
  ·obtain⟨e1,h1⟩:=QM deep bY aP out s
   obtain⟨e2,h2⟩:=oG deep bY aP (gy deep bY aP out s) l
   rw [h2,h1]
   exact⟨_,by rw [List.append_assoc]⟩
  ·exact⟨[],by simp⟩
end
mutual
theorem QN (deep bY:Int) (aP:Bool) (out:List It) : ∀ s:Sm,(gy deep bY aP out s).length≤200→(∀ i∈gy deep bY aP out s,i.deep≤12)→(gy deep bY aP out s).map It.s=out.map It.s++s.pre
 | ⟨id,kind,labels,name,proc,x,has,args,aY,e⟩,h1,h2=>by
  simp only [gy,Sm.pre]at h1 h2 ⊢
  by_cases hd:deep≤12
  ·simp only [hd,decide_true,if_true]at h1 h2 ⊢
   obtain⟨e2,g2⟩:=oG (deep+1) id true (eA (deep+1) id false (out++ [⟨⟨id,kind,labels,name,proc,x,has,args,aY,e⟩,deep,bY,aP⟩]) aY) e
   have k1:(eA (deep+1) id false (out++ [⟨⟨id,kind,labels,name,proc,x,has,args,aY,e⟩,deep,bY,aP⟩]) aY).length≤200:=by
    rw [g2,List.length_append]at h1;omega
   have k2 : ∀ i∈eA (deep+1) id false (out++ [⟨⟨id,kind,labels,name,proc,x,has,args,aY,e⟩,deep,bY,aP⟩]) aY,i.deep≤12:=fun i m=>h2 i (by rw [g2];exact List.mem_append_left _ m)
   rw [vQ (deep+1) id true _ e h1 h2,vQ (deep+1) id false _ aY k1 k2]
   simp
  ·simp only [hd,decide_false,Bool.false_eq_true,if_false]at h1 h2
   exact absurd (h2 _ (List.mem_append_right _ (List.mem_singleton.2 rfl))) (by simpa using hd)
theorem vQ (deep bY:Int) (aP:Bool) (out:List It) : ∀ l:List Sm,(eA deep bY aP out l).length≤200→(∀ i∈eA deep bY aP out l,i.deep≤12)→(eA deep bY aP out l).map It.s=out.map It.s++Sm.cW l
 | [],h1,h2=>by simp [eA,Sm.cW]
 | s::l,h1,h2=>by
  simp only [eA,Sm.cW]at h1 h2 ⊢
  by_cases hc:(out.length:Int)≤200
  ·simp only [hc,decide_true,if_true]at h1 h2 ⊢
   obtain⟨e2,g2⟩:=oG deep bY aP (gy deep bY aP out s) l
   have k1:(gy deep bY aP out s).length≤200:=by rw [g2,List.length_append]at h1;omega
   have k2 : ∀ i∈gy deep bY aP out s,i.deep≤12:=fun i m=>h2 i (by rw [g2];exact List.mem_append_left _ m)
   rw [vQ deep bY aP _ l h1 h2,QN deep bY aP out s k1 k2]
   simp
  ·simp only [hc,decide_false,Bool.false_eq_true,if_false]at h1
   omega
end
theorem IV : ∀ (l:List Pc) (out:List It),(allM out l).length≤200→(∀ i∈allM out l,i.deep≤12)→(∀ f∈l,f.flat.map It.s=Sm.cW f.body)∧(allM out l).map It.s=out.map It.s++(l.map fun f=>Sm.cW f.body).flatten
 | [],out,h1,h2=>⟨fun f m=>(by cases m),by simp [allM]⟩
 | f::l,out,h1,h2=>by
  simp only [allM]at h1 h2 ⊢
  by_cases hc:(((out++f.flat).length:Nat):Int) > 200
  ·simp only [hc,decide_true,if_true]at h1;omega
  ·simp only [hc,decide_false,Bool.false_eq_true,if_false]at h1 h2 ⊢
   obtain⟨k1,k2⟩:=IV l (out++f.flat) h1 h2
   have wK : ∀ (l:List Pc) (out:List It),∃ e,allM out l=out++e:=by
    intro l
    induction l with
    | nil=>intro out;exact⟨[],by simp [allM]⟩
    | cons g l ih=>
     intro out
     simp only [allM]
     split
     ·exact⟨_,rfl⟩
     ·obtain⟨e,h⟩:=ih (out++g.flat);exact⟨g.flat++e,by rw [h];simp⟩
   obtain⟨e,he⟩:=wK l (out++f.flat)
   have k3:f.flat.map It.s=Sm.cW f.body:=by
    have:=vQ 1 0 false [] f.body (by
     have:f.flat.length≤200:=by simp only [List.length_append]at hc;omega
     exact this) (fun i m=>h2 i (by rw [he];exact List.mem_append_left _ (List.mem_append_right _ m)))
    simpa [Pc.flat]using this
   refine⟨fun g m=> ?_, ?_⟩
   ·rcases List.mem_cons.1 m with rfl | m
    ·exact k3
    ·exact k1 g m
   ·rw [k2];simp [k3]
theorem vR : ∀ (l:List It) (n:Nat),It.ep n l=true→(∀ i∈l,i.deep≤12)∧∀ (j:Nat) (i:It),l[j]? = some i→i.s.id=((n+j+1:Nat):Int)
 | [],n,h=>⟨fun i m=>(by cases m),fun j i h=>by simp at h⟩
 | a::l,n,h=>by
  simp only [It.ep]at h
  split at h
  ·cases h
  ·rename_i c
   simp only [Bool.or_eq_true,not_or,bne_iff_ne,ne_eq,Decidable.not_not,decide_eq_true_eq,Int.not_lt,gt_iff_lt]at c
   obtain⟨k1,k2⟩:=vR l (n+1) h
   refine⟨fun i m=> ?_,fun j i hj=> ?_⟩
   ·rcases List.mem_cons.1 m with rfl | m
    ·exact c.1.2
    ·exact k1 i m
   ·cases j with
    | zero=>simp at hj;subst hj;rw [c.1.1]
    | succ j=>simp at hj;rw [k2 j i hj];congr 1;omega
theorem Be {p:Pg} (h:p.may=true):p.all.length≤200∧It.ep 0 p.all=true:=by
 unfold Pg.may at h
 split at h
 ·cases h
 ·split at h
  ·cases h
  ·split at h
   ·cases h
   ·rename_i c
    exact⟨by simp only [decide_eq_true_eq,Int.not_lt,gt_iff_lt]at c;omega,h⟩
theorem Ud {p:Pg} (h:p.may=true):(∀ f∈p.procs,f.flat.map It.s=Sm.cW f.body)∧p.all.map It.s=p.pre:=by
 obtain⟨h1,h2⟩:=Be h
 have:=IV p.procs [] h1 (vR _ 0 h2).1
 simpa [Pg.pre,Pg.all]using this
theorem IW {p:Pg} (h:p.may=true) {i:Nat} {v:Sm} (hv:p.pre[i]? = some v):v.id=((i+1:Nat):Int):=by
 rw [← (Ud h).2,List.getElem?_map,Option.map_eq_some_iff]at hv
 obtain⟨it,h1,rfl⟩:=hv
 have:=(vR _ 0 (Be h).2).2 i it h1
 rw [this];congr 1;omega
end Go.Abs

/-! Sc4 -/

namespace Go.Abs
set_option maxRecDepth 8000
open Go.Proofs
structure Pg.ki (p:Pg):Prop where
 Ue:p.Hg
 sz:p.size≤900000
mutual
theorem abT : ∀ s:Sm,s.vI→s.size<1000000→∀ v∈s.pre,v.pC∧v.mF
 | ⟨id,kind,labels,name,proc,x,has,args,aY,aP⟩,h,hs,v,m=>by
  simp only [Sm.vI]at h
  simp only [Sm.size]at hs
  simp only [Sm.pre,List.mem_cons,List.mem_append]at m
  rcases m with rfl | m | m
  ·exact⟨⟨h.1.xt,fun a ha=>(h.1.arg a ha).2.1,by dsimp only;omega⟩,h.1⟩
  ·exact Bf aY h.2.1 (by omega) v m
  ·exact Bf aP h.2.2 (by omega) v m
theorem Bf : ∀ l:List Sm,Sm.jM l→Sm.aX l<1000000→∀ v∈Sm.cW l,v.pC∧v.mF
 | [],h,hs,v,m=>by simp [Sm.cW]at m
 | s::l,h,hs,v,m=>by
  simp only [Sm.jM]at h
  simp only [Sm.aX]at hs
  simp only [Sm.cW,List.mem_append]at m
  rcases m with m | m
  ·exact abT s h.1 (by omega) v m
  ·exact Bf l h.2 (by omega) v m
end
theorem Pg.ki.said {p:Pg} (h:p.ki) {f:Pc} (hf:f∈p.procs) : ∀ v∈Sm.cW f.body,v.pC:=fun v m=>by
 have h1:=Pc.bV hf
 have h2:=h.sz
 simp only [Pg.size]at h2
 simp only [Pc.size]at h1
 exact(Bf f.body (h.Ue.body f hf) (by omega) v m).1
theorem Pg.ki.small {p:Pg} (h:p.ki) {f:Pc} (hf:f∈p.procs):f.Small p:=by
 have h1:=Pc.bV hf
 have h2:=h.sz
 simp only [Pg.size]at h2
 simp only [Pc.size]at h1
 exact⟨by omega,by omega,by omega⟩
theorem Pg.ki.procs {p:Pg} (h:p.ki):p.procs.length≤900000∧Pc.aX p.procs≤900000∧p.globals.length≤900000:=by
 have h2:=h.sz
 have h3:=Pc.cP p.procs
 simp only [Pg.size]at h2
 omega
def Pg.pn (p:Pg):List aC:=p.procs.map (·.name)
def wM (p:Pg) (f:Pc) (procs:List aC):List Sm→Option Sm
 | []=>none
 | v::l=>if v.known p f procs then wM p f procs l else some v
def qW (p:Pg) (procs:List aC):List Pc→Int×Int
 | []=>(0,0)
 | f::l=>if ei (p.globals++f.own)then(5,0)else match wM p f procs (Sm.cW f.body)with | some v=>(5,v.id) | none=>qW p procs l
def Pg.oH (p:Pg):Bool:=match p.find pO with | none=>true | some m=>decide ((m.params.length:Int) > 0)
def Pg.scope (p:Pg):Int×Int:=
 if p.may then if ei p.globals || (ei p.pn || p.oH)then(5,0)else qW p p.pn p.procs else(1,0)
theorem Uf (p:Pg) (hl:p.globals.length<1000000) (n:aC):aB Tryz.prog nZ ([.str n]++ [.ptr 0 0]) ⟨[bC p],[]⟩ (.bool (er p.globals n)) ⟨[bC p],[]⟩:=by
 show aB Tryz.prog nZ [.str n, .ptr 0 0] _ _ _
 have ti:=jb (l:=p.globals) (by omega) n
 refine aB.go Bp rfl fun B Q hB hQ=> ?_
 have⟨hF,hP,hZ,gA⟩:=bH
 repeat' (first
 | simp only [go_sem,hF,hP,hZ,gA]
 | (with_reducible refine CU (ti _ _) ?_)
 | (with_reducible refine aG hQ ?_;simp only [ay,az,Option.some.injEq,exists_eq_left',go_sem,hF,hP,hZ,gA];repeat' (first | exact Ok.out | with_reducible refine aI ?_ ?_ | (simp;done))))
theorem afC (n m:Nat) (p:Pg):D.gw n m (iu p)=iu p:=ib n m _ (yy p)
attribute [go_sem] afC
theorem Yh {p:Pg} {f:Pc} {procs:List aC} {v:Sm} (hs:f.Small p) (BP:procs.length<1000000) (hv:v.pC) (g:Tag) (s:St):aB Tryz.prog pM [.agg (bC p), .agg (bq f), .slice g 1 (procs.map encStr), .agg (aU v)] s (.bool (v.known p f procs)) s:=
 dV.wg (.cons (Wk.refl _) (.cons (Wk.refl _) (.cons (Wk.shared g 1 _) (jH.refl _)))) (Yg hs BP hv s)
theorem uU {p:Pg} (h:p.ki) (s:St):aB Tryz.prog lg [.agg (bC p)] s (.agg [.int .i64 p.scope.1, .int .i64 p.scope.2]) s:=by
 refine aB.pure ?_ (by simp [D.bp,D.ok,gl]) rfl s
 have hm:=fun s=>Ql h.Ue s
 simp only [E3]at hm
 obtain⟨uq,tA,zi⟩:=h.procs
 have dF:=fun s=>Dy (p:=p) (by omega) s
 have o5:=fun s=>Cm (l:=p.globals) (by omega) .shared s
 have hpn:p.pn.length=p.procs.length:=by simp [Pg.pn]
 have CP:=fun g s=>Cm (l:=p.pn) (by omega) g s
 have hix:=fun g s=>(KU (l:=p.pn) (by omega) pO s).QB (Wk.shared g 1 (p.pn.map encStr))
 have Cn:=fun g s=>(show aB Tryz.prog iN [.slice g 1 (p.pn.map encStr), .str [109,97,105,110]] s (.int .i64 (nT pO 0 p.pn)) s from hix g s)
 generalize hR:p.scope=R
 simp only [Pg.scope]at hR
 unfold S0
 rcases Bool.eq_false_or_eq_true p.may with hb | hb
 case inr=>
  simp only [hb]at hm
  simp only [hb,Bool.false_eq_true,if_false]at hR
  subst hR
  refine aB.go vD rfl fun B Q hB hQ=> ?_
  have⟨hF,hP,hZ,gA⟩:=bH
  repeat' (first
 | simp only [go_sem,hF,hP,hZ,gA]
 | (with_reducible refine CU (hm _) ?_)
 | (with_reducible refine aG hQ ?_;simp only [ay,az,Option.some.injEq,exists_eq_left',go_sem,hF,hP,hZ,gA];repeat' (first | exact Ok.out | with_reducible refine aI ?_ ?_ | (simp;done))))
 simp only [hb]at hm
 simp only [hb,if_true]at hR
 refine aB.go vD rfl fun B Q hB hQ=> ?_
 have⟨hF,hP,hZ,gA⟩:=bH
 repeat' (first
 | simp only [go_sem,hF,hP,hZ,gA]
 | (with_reducible refine CU (hm _) ?_)
 | (with_reducible refine aG hQ ?_;simp only [ay,az,Option.some.injEq,exists_eq_left',go_sem,hF,hP,hZ,gA];repeat' (first | exact Ok.out | with_reducible refine aI ?_ ?_ | (simp;done))))
 refine bk.ov 3 1 rfl ?_
 simp only [go_sem,hF,hP,hZ,gA]
 refine cU 2 1 (bk.ind (ι:=List Pc×Nat×List aC×Nat) (fun i=>p.procs.drop i.2.1=i.1∧i.2.2.1++i.1.map (·.name)=p.pn∧i.2.2.2=i.2.2.1.length) (fun i=>i.1.length)
  (fun i=> [(1, .ptr 0 0),(2, .ptr 1 0),(3, .slice (.tok 0) 1 (i.2.2.1.map encStr)),(18, .slice .shared 5 (p.procs.map bq)),(19, .int .i64 (p.procs.length:Int)),(20, .int .i64 (i.2.1:Int))]) (fun i=>⟨[bC p,[.int .i64 0, .int .i64 0]],[some i.2.2.2]⟩) ?_ (p.procs,0,[],0) ⟨rfl,rfl,rfl⟩)
 rintro⟨rest,k,out,n⟩ ⟨h1,h2,h3⟩ IH
 dsimp only at h1 h2 h3
 subst h3
 have hlo:out.length+rest.length≤900000:=by
  have:=congrArg List.length h2
  simp only [List.length_append,List.length_map]at this
  omega
 cases rest with
 | cons a rest=>
  obtain⟨hP,g2,hF,g4⟩:=drop_cons h1
  have cv:k<4611686018427387904:=by omega
  have hZ:(out.length+1)*17≤bm:=by unfold bm;omega
  repeat' (first
 | simp only [go_sem,hF,hP,hZ,gA]
 | (with_reducible refine aG hQ ?_;simp only [ay,az,Option.some.injEq,exists_eq_left',go_sem,hF,hP,hZ,gA];repeat' (first | exact Ok.out | with_reducible refine aI ?_ ?_ | (simp;done))))
  refine dZ 2 1 ?_ ?_ (IH (rest,k+1,out++ [a.name],out.length+1) ⟨g2,by rw [← h2];simp,by simp⟩ (Nat.lt_succ_self _))
  ·(simp only [go_sem,hF,hP,hZ,gA,aM cv,List.map_append,List.map_cons,List.map_nil,encStr];try exact bO)
  ·(simp only [go_sem,hF,hP,hZ,gA,aM cv,List.map_append,List.map_cons,List.map_nil,encStr];try exact bO)
 | nil=>
  have hF:=drop_nil h1
  simp only [List.map_nil,List.append_nil]at h2
  subst h2
  rcases Bool.eq_false_or_eq_true (ei p.globals)with b1 | b1
  ·simp only [b1,Bool.true_or,if_true]at hR
   subst hR
   repeat' (first
 | simp only [go_sem,hF,hP,hZ,gA,b1]
 | (with_reducible refine CU (Cn _ _) ?_)
 | (with_reducible refine CU (o5 _) ?_)
 | (with_reducible refine CU (CP _ _) ?_)
 | (with_reducible refine aG hQ ?_;simp only [ay,az,Option.some.injEq,exists_eq_left',go_sem,hF,hP,hZ,gA];repeat' (first | exact Ok.out | with_reducible refine aI ?_ ?_ | (simp;done))))
  rcases Bool.eq_false_or_eq_true (ei p.pn)with b2 | b2
  ·simp only [b1,b2,Bool.true_or,Bool.or_true,if_true]at hR
   subst hR
   repeat' (first
 | simp only [go_sem,hF,hP,hZ,gA,b1,b2]
 | (with_reducible refine CU (Cn _ _) ?_)
 | (with_reducible refine CU (o5 _) ?_)
 | (with_reducible refine CU (CP _ _) ?_)
 | (with_reducible refine aG hQ ?_;simp only [ay,az,Option.some.injEq,exists_eq_left',go_sem,hF,hP,hZ,gA];repeat' (first | exact Ok.out | with_reducible refine aI ?_ ?_ | (simp;done))))
  rcases IU pO p.procs 0 with ⟨e1,e2⟩ | ⟨m,j,e1,e2,e3⟩
  ·have b3:p.oH=true:=by unfold Pg.oH Pg.find;rw [e1]
   have hi:nT pO 0 p.pn = -1:=e2
   simp only [b1,b2,b3,Bool.or_true,if_true]at hR
   subst hR
   simp only [hi]at Cn
   have d1:decide ((-1:Int)<0)=true:=by decide
   repeat' (first
 | simp only [go_sem,hF,hP,hZ,gA,b1,b2,d1]
 | (with_reducible refine CU (Cn _ _) ?_)
 | (with_reducible refine CU (o5 _) ?_)
 | (with_reducible refine CU (CP _ _) ?_)
 | (with_reducible refine aG hQ ?_;simp only [ay,az,Option.some.injEq,exists_eq_left',go_sem,hF,hP,hZ,gA];repeat' (first | exact Ok.out | with_reducible refine aI ?_ ?_ | (simp;done))))
  have hi:nT pO 0 p.pn=((j:Nat):Int):=by rw [show p.pn=p.procs.map (·.name)from rfl];simpa using e3
  simp only [hi]at Cn
  have d1:decide (((j:Nat):Int)<0)=false:=by simp
  have hj:j<p.procs.length:=(List.getElem?_eq_some_iff.1 e2).1
  have b3:p.oH=decide ((m.params.length:Int) > 0):=by unfold Pg.oH Pg.find;rw [e1]
  rw [b3]at hR
  rcases Bool.eq_false_or_eq_true (decide ((m.params.length:Int) > 0))with b4 | b4
  ·simp only [b1,b2,b4,Bool.or_true,if_true]at hR
   subst hR
   repeat' (first
 | simp only [go_sem,hF,hP,hZ,gA,b1,b2,d1,e2,b4]
 | (with_reducible refine CU (Cn _ _) ?_)
 | (with_reducible refine CU (o5 _) ?_)
 | (with_reducible refine CU (CP _ _) ?_)
 | (with_reducible refine aG hQ ?_;simp only [ay,az,Option.some.injEq,exists_eq_left',go_sem,hF,hP,hZ,gA];repeat' (first | exact Ok.out | with_reducible refine aI ?_ ?_ | (simp;done))))
  simp only [b1,b2,b4,Bool.or_false,Bool.false_eq_true,if_false]at hR
  repeat' (first
 | simp only [go_sem,hF,hP,hZ,gA,b1,b2,d1,e2,b4]
 | (with_reducible refine CU (Cn _ _) ?_)
 | (with_reducible refine CU (o5 _) ?_)
 | (with_reducible refine CU (CP _ _) ?_)
 | (with_reducible refine CU (dF _) ?_)
 | (with_reducible refine aG hQ ?_;simp only [ay,az,Option.some.injEq,exists_eq_left',go_sem,hF,hP,hZ,gA];repeat' (first | exact Ok.out | with_reducible refine aI ?_ ?_ | (simp;done))))
  refine cU 2 1 (bk.ind (ι:=List Pc×Nat) (fun i=>p.procs.drop i.2=i.1∧qW p p.pn i.1=R) (fun i=>i.1.length)
   (fun i=> [(1, .ptr 0 0),(2, .ptr 1 0),(3, .slice (.tok 0) 1 (p.pn.map encStr)),(7, .dE (iu p) 0),(57, .slice .shared 5 (p.procs.map bq)),(58, .int .i64 (p.procs.length:Int)),(59, .int .i64 (i.2:Int))]) (fun i=>⟨[bC p,[.int .i64 0, .int .i64 0]],[some p.pn.length]⟩) ?_ (p.procs,0) ⟨rfl,hR⟩)
  clear IH h1 hF hR
  rintro⟨rest,k⟩ ⟨h1,hR⟩ IH
  dsimp only at h1 hR
  cases rest with
  | nil=>
   have hF:=drop_nil h1
   simp only [qW]at hR
   subst hR
   repeat' (first
 | simp only [go_sem,hF,hP,hZ,gA]
 | (with_reducible refine aG hQ ?_;simp only [ay,az,Option.some.injEq,exists_eq_left',go_sem,hF,hP,hZ,gA];repeat' (first | exact Ok.out | with_reducible refine aI ?_ ?_ | (simp;done))))
  | cons f rest=>
   obtain⟨hP,g2,hF,g4⟩:=drop_cons h1
   have cv:k<4611686018427387904:=by omega
   have zj:=List.mem_of_getElem? hP
   have FR:=h.small zj
   have QO:=fun s=>afB (f:=f) FR.par FR.vars s
   have kN:f.own.length<4611686018427387904:=by have h1:=FR.par;have h2:=FR.vars;unfold Pc.own Pc.Av;simp;omega
   have KX:=fun s=>Cm (l:=f.own) kN .shared s
   have BQ:=fun {s:St} {o:Nat} (ho:s.aw[o]? = some (bC p))=>xJ (l:=f.own) kN (f:=nZ) (row:=bC p) (b:=er p.globals) (gl p) (by with_unfolding_all rfl) (fun x _=>Uf p FR.yu x) ho
   have Ug:=fun {s:St} {o:Nat} (ho:s.aw[o]? = some (bC p))=>(show aB Tryz.prog fU [.slice .shared 1 (f.own.map encStr), .gb 63 [.ptr o 0]] s (.bool (f.own.any (er p.globals))) s from BQ ho)
   simp only [qW,QL,b1,Bool.false_or]at hR
   rcases Bool.eq_false_or_eq_true (ei f.own)with c1 | c1
   ·simp only [c1,Bool.true_or,if_true]at hR
    subst hR
    repeat' (first
 | simp only [go_sem,hF,hP,hZ,gA,c1]
 | (with_reducible refine CU (QO _) ?_)
 | (with_reducible refine CU (KX _) ?_)
 | (with_reducible refine CU (Ug (by with_unfolding_all rfl)) ?_)
 | (with_reducible refine aG hQ ?_;simp only [ay,az,Option.some.injEq,exists_eq_left',go_sem,hF,hP,hZ,gA];repeat' (first | exact Ok.out | with_reducible refine aI ?_ ?_ | (simp;done))))
   rcases Bool.eq_false_or_eq_true (f.own.any (er p.globals))with c2 | c2
   ·simp only [c1,c2,Bool.false_or,if_true]at hR
    subst hR
    repeat' (first
 | simp only [go_sem,hF,hP,hZ,gA,c1,c2]
 | (with_reducible refine CU (QO _) ?_)
 | (with_reducible refine CU (KX _) ?_)
 | (with_reducible refine CU (Ug (by with_unfolding_all rfl)) ?_)
 | (with_reducible refine aG hQ ?_;simp only [ay,az,Option.some.injEq,exists_eq_left',go_sem,hF,hP,hZ,gA];repeat' (first | exact Ok.out | with_reducible refine aI ?_ ?_ | (simp;done))))
   simp only [c1,c2,Bool.or_self,Bool.false_eq_true,if_false]at hR
   obtain⟨it,xG,DC⟩:=T5 hP (by omega)
   rw [← xG]at hR
   have abV:it.length≤900000:=by
    have e:=congrArg List.length xG
    have e2:=(qi p).2 k f hP
    obtain⟨a,b,e',_,_,e3,e4⟩:=e2
    have e5:=qj p
    have e6:=congrArg List.length e3
    rw [e4]at e5
    simp only [List.length_map,List.length_append]at e e5 e6
    omega
   repeat' (first
 | simp only [go_sem,hF,hP,hZ,gA,c1,c2]
 | (with_reducible refine CU (QO _) ?_)
 | (with_reducible refine CU (KX _) ?_)
 | (with_reducible refine CU (Ug (by with_unfolding_all rfl)) ?_)
 | (with_reducible refine CU (DC _) ?_)
 | (with_reducible refine aG hQ ?_;simp only [ay,az,Option.some.injEq,exists_eq_left',go_sem,hF,hP,hZ,gA];repeat' (first | exact Ok.out | with_reducible refine aI ?_ ?_ | (simp;done))))
   obtain⟨q,hq⟩ : ∃ q,wM p f p.pn (it.map Im.s)=q:=⟨_,rfl⟩
   rw [hq]at hR
   refine cU 3 1 (bk.ind (ι:=List Im×Nat) (fun i=>it.drop i.2=i.1∧wM p f p.pn (i.1.map Im.s)=q) (fun i=>i.1.length)
    (fun i=> [(1, .ptr 0 0),(2, .ptr 1 0),(3, .slice (.tok 0) 1 (p.pn.map encStr)),(7, .dE (iu p) 0),(9, .ptr 2 0),(57, .slice .shared 5 (p.procs.map bq)),(58, .int .i64 (p.procs.length:Int)),(59, .int .i64 (k:Int)),(76, .slice .shared 17 (it.map ff)),(77, .int .i64 (it.length:Int)),(78, .int .i64 (i.2:Int))]) (fun i=>⟨[bC p,[.int .i64 0, .int .i64 0],bq f],[some p.pn.length]⟩) ?_ (it,0) ⟨rfl,hq⟩)
   rintro⟨pH,n⟩ ⟨j1,j2⟩ WQ
   dsimp only at j1 j2
   have BF:=hF
   cases pH with
   | nil=>
    have aos:=drop_nil j1
    simp only [List.map_nil,wM]at j2
    subst j2
    simp only at hR
    repeat' (first
 | simp only [go_sem,hF,hP,hZ,gA,aos]
 | (with_reducible refine aG hQ ?_;simp only [ay,az,Option.some.injEq,exists_eq_left',go_sem,hF,hP,hZ,gA];repeat' (first | exact Ok.out | with_reducible refine aI ?_ ?_ | (simp;done))))
    refine dZ 2 1 ?_ ?_ (IH (rest,k+1) ⟨g2,hR⟩ (Nat.lt_succ_self _))
    ·(simp only [go_sem,hF,hP,hZ,gA,aM cv];try exact bO)
    ·(simp only [go_sem,hF,hP,hZ,gA,aM cv];try exact bO)
   | cons i pH=>
    obtain⟨oI,KY,xL,jg4⟩:=drop_cons j1
    have sM:n<4611686018427387904:=by omega
    have FT:i.s∈Sm.cW f.body:=by rw [← xG];exact List.mem_map_of_mem (List.mem_of_getElem? oI)
    have hkn:=Yh (v:=i.s) FR (procs:=p.pn) (by omega) (h.said zj _ FT)
    simp only [List.map_cons,wM]at j2
    rcases Bool.eq_false_or_eq_true (i.s.known p f p.pn)with c3 | c3
    ·simp only [c3,if_true]at j2
     repeat' (first
 | simp only [go_sem,hF,hP,hZ,gA,xL,oI,c3]
 | (with_reducible refine CU (hkn _ _) ?_)
 | (with_reducible refine aG hQ ?_;simp only [ay,az,Option.some.injEq,exists_eq_left',go_sem,hF,hP,hZ,gA];repeat' (first | exact Ok.out | with_reducible refine aI ?_ ?_ | (simp;done))))
     refine dZ 3 1 ?_ ?_ (WQ (pH,n+1) ⟨KY,j2⟩ (Nat.lt_succ_self _))
     ·(simp only [go_sem,hF,hP,hZ,gA,aM sM];try exact bO)
     ·(simp only [go_sem,hF,hP,hZ,gA,aM sM];try exact bO)
    ·simp only [c3,Bool.false_eq_true,if_false]at j2
     subst j2
     simp only at hR
     subst hR
     repeat' (first
 | simp only [go_sem,hF,hP,hZ,gA,xL,oI,c3]
 | (with_reducible refine CU (hkn _ _) ?_)
 | (with_reducible refine aG hQ ?_;simp only [ay,az,Option.some.injEq,exists_eq_left',go_sem,hF,hP,hZ,gA];repeat' (first | exact Ok.out | with_reducible refine aI ?_ ?_ | (simp;done))))
end Go.Abs

/-! Sc5 -/

namespace Go.Abs
set_option maxRecDepth 8000
open Go.Proofs
theorem Uh (x:It):(jn x)[1]? = some (.int .i64 x.s.kind):=nd rfl
theorem Ui (x:It):(jn x)[3]? = some (.str x.s.name):=nd rfl
theorem Uj (x:It):(jn x)[4]? = some (.str x.s.proc):=nd rfl
theorem Yi (x:It):List.take 16 (jn x)=jn x:=nd rfl
attribute [go_sem] Uh Ui Uj Yi
end Go.Abs

/-! Ar1 -/

namespace Go.Abs
set_option maxRecDepth 8000
open Go.Proofs
def DD:List Pm→List Ar→Bool
 | [],_=>true
 | _,[]=>true
 | a::l,b::m=>if a.ref==b.ref then DD l m else false
def DE (l:List Pm) (m:List Ar):Bool:=if(l.length:Int)==(m.length:Int)then DD l m else false
def Sm.l6 (p:Pg) (v:Sm):Bool:=v.kind==4 && match p.find v.proc with | none=>false | some q=>DE q.params v.args
theorem abW {l:List Pm} {m:List Ar} (hl:l.length<1000000000) (hm:m.length<1000000000) (s:St):aB Tryz.prog uH [.slice .shared 2 (l.map fK), .slice .shared 6 (m.map ej)] s (.bool (DE l m)) s:=by
 refine aB.pure ?_ (by simp [D.bp,D.ok,Tag.ok,Nu,G7]) rfl s
 generalize h:DE l m=q
 simp only [DE]at h
 unfold S0
 have b0:((l.length:Int) != (m.length:Int)) = !((l.length:Int)==(m.length:Int)):=rfl
 rcases Bool.eq_false_or_eq_true ((l.length:Int)==(m.length:Int))with b1 | b1
 case inr=>
  rw [b1]at b0
  simp only [b1,Bool.false_eq_true,if_false]at h
  subst h
  refine aB.go xw rfl fun B Q hB hQ=> ?_
  have⟨hF,hP,hZ,gA⟩:=bH
  repeat' (first
 | simp only [go_sem,hF,hP,hZ,gA,b0,Bool.not_false]
 | (with_reducible refine aG hQ ?_;simp only [ay,az,Option.some.injEq,exists_eq_left',go_sem,hF,hP,hZ,gA];repeat' (first | exact Ok.out | with_reducible refine aI ?_ ?_ | (simp;done))))
 rw [b1]at b0
 simp only [b1,if_true]at h
 have WR:l.length=m.length:=by have:=eq_of_beq b1;omega
 refine aB.go xw rfl fun B Q hB hQ=> ?_
 have⟨hF,hP,hZ,gA⟩:=bH
 repeat' (first
 | simp only [go_sem,hF,hP,hZ,gA,b0,Bool.not_true]
 | (with_reducible refine aG hQ ?_;simp only [ay,az,Option.some.injEq,exists_eq_left',go_sem,hF,hP,hZ,gA];repeat' (first | exact Ok.out | with_reducible refine aI ?_ ?_ | (simp;done))))
 refine cU 0 0 (bk.ind (ι:=List Pm×List Ar×Nat) (fun i=>l.drop i.2.2=i.1∧m.drop i.2.2=i.2.1∧DD i.1 i.2.1=q) (fun i=>i.1.length)
  (fun i=> [(1, .slice .shared 6 (m.map ej)),(12, .slice .shared 2 (l.map fK)),(13, .int .i64 (l.length:Int)),(14, .int .i64 (i.2.2:Int))]) (fun i=>⟨[],[]⟩) ?_ (l,m,0) ⟨rfl,rfl,h⟩)
 rintro⟨r1,r2,k⟩ ⟨h1,h2,h⟩ IH
 dsimp only at h1 h2 h
 cases r1 with
 | nil=>
  have hF:=drop_nil h1
  simp only [DD]at h
  subst h
  repeat' (first
 | simp only [go_sem,hF,hP,hZ,gA]
 | (with_reducible refine aG hQ ?_;simp only [ay,az,Option.some.injEq,exists_eq_left',go_sem,hF,hP,hZ,gA];repeat' (first | exact Ok.out | with_reducible refine aI ?_ ?_ | (simp;done))))
 | cons a r1=>
  obtain⟨hP,g2,hF,g4⟩:=drop_cons h1
  cases r2 with
  | nil=>have:=List.drop_eq_nil_iff.1 h2;omega
  | cons b r2=>
   obtain⟨WS,b2,N2,_⟩:=drop_cons h2
   have cv:k<4611686018427387904:=by omega
   simp only [DD]at h
   have w1:(true==true)=true:=rfl
   have w2:(false==false)=true:=rfl
   have w3:(true==false)=false:=rfl
   have w4:(false==true)=false:=rfl
   have v1:(true != true)=false:=rfl
   have v2:(false != false)=false:=rfl
   have v3:(true != false)=true:=rfl
   have v4:(false != true)=true:=rfl
   rcases Bool.eq_false_or_eq_true a.ref with ea | ea
   ·rcases Bool.eq_false_or_eq_true b.ref with eb | eb
    ·simp only [ea,eb,w1,w2,if_true]at h
     repeat' (first
 | simp only [go_sem,hF,hP,hZ,gA,WS,N2,ea,eb,w1,w2,v1,v2]
 | (with_reducible refine aG hQ ?_;simp only [ay,az,Option.some.injEq,exists_eq_left',go_sem,hF,hP,hZ,gA];repeat' (first | exact Ok.out | with_reducible refine aI ?_ ?_ | (simp;done))))
     refine dZ 0 0 ?_ ?_ (IH (r1,r2,k+1) ⟨g2,b2,h⟩ (Nat.lt_succ_self _))
     ·(simp only [go_sem,hF,hP,hZ,gA,aM cv];try exact bO)
     ·(simp only [go_sem,hF,hP,hZ,gA,aM cv];try exact bO)
    ·simp only [ea,eb,w3,w4,Bool.false_eq_true,if_false]at h
     subst h
     repeat' (first
 | simp only [go_sem,hF,hP,hZ,gA,WS,N2,ea,eb,w3,w4,v3,v4]
 | (with_reducible refine aG hQ ?_;simp only [ay,az,Option.some.injEq,exists_eq_left',go_sem,hF,hP,hZ,gA];repeat' (first | exact Ok.out | with_reducible refine aI ?_ ?_ | (simp;done))))
   ·rcases Bool.eq_false_or_eq_true b.ref with eb | eb
    ·simp only [ea,eb,w3,w4,Bool.false_eq_true,if_false]at h
     subst h
     repeat' (first
 | simp only [go_sem,hF,hP,hZ,gA,WS,N2,ea,eb,w3,w4,v3,v4]
 | (with_reducible refine aG hQ ?_;simp only [ay,az,Option.some.injEq,exists_eq_left',go_sem,hF,hP,hZ,gA];repeat' (first | exact Ok.out | with_reducible refine aI ?_ ?_ | (simp;done))))
    ·simp only [ea,eb,w1,w2,if_true]at h
     repeat' (first
 | simp only [go_sem,hF,hP,hZ,gA,WS,N2,ea,eb,w1,w2,v1,v2]
 | (with_reducible refine aG hQ ?_;simp only [ay,az,Option.some.injEq,exists_eq_left',go_sem,hF,hP,hZ,gA];repeat' (first | exact Ok.out | with_reducible refine aI ?_ ?_ | (simp;done))))
     refine dZ 0 0 ?_ ?_ (IH (r1,r2,k+1) ⟨g2,b2,h⟩ (Nat.lt_succ_self _))
     ·(simp only [go_sem,hF,hP,hZ,gA,aM cv];try exact bO)
     ·(simp only [go_sem,hF,hP,hZ,gA,aM cv];try exact bO)
end Go.Abs

/-! Ar2 -/

namespace Go.Abs
set_option maxRecDepth 8000
open Go.Proofs
theorem abX {p:Pg} {v:Sm} (h:p.ki) (hv:v.pC) (s:St):aB Tryz.prog uE [.agg (bC p), .agg (aU v)] s (.bool (v.l6 p)) s:=by
 refine aB.pure ?_ (by simp [D.bp,D.ok,gl,jZ]) rfl s
 obtain⟨uq,tA,zi⟩:=h.procs
 have tv:v.args.length<1000000000:=by have:=Ar.cP v.args;have:=hv.2.2;omega
 generalize hR:v.l6 p=R
 simp only [Sm.l6]at hR
 unfold S0
 have b0:(v.kind != 4) = !(v.kind==4):=rfl
 rcases Bool.eq_false_or_eq_true (v.kind==4)with b1 | b1
 case inr=>
  rw [b1]at b0
  simp only [b1,Bool.false_and]at hR
  subst hR
  refine aB.go xm rfl fun B Q hB hQ=> ?_
  have⟨hF,hP,hZ,gA⟩:=bH
  repeat' (first
 | simp only [go_sem,hF,hP,hZ,gA,b0,Bool.not_false]
 | (with_reducible refine aG hQ ?_;simp only [ay,az,Option.some.injEq,exists_eq_left',go_sem,hF,hP,hZ,gA];repeat' (first | exact Ok.out | with_reducible refine aI ?_ ?_ | (simp;done))))
 rw [b1]at b0
 simp only [b1,Bool.true_and,Pg.find]at hR
 refine aB.go xm rfl fun B Q hB hQ=> ?_
 have⟨hF,hP,hZ,gA⟩:=bH
 repeat' (first
 | simp only [go_sem,hF,hP,hZ,gA,b0,Bool.not_true]
 | (with_reducible refine aG hQ ?_;simp only [ay,az,Option.some.injEq,exists_eq_left',go_sem,hF,hP,hZ,gA];repeat' (first | exact Ok.out | with_reducible refine aI ?_ ?_ | (simp;done))))
 refine cU 2 0 (bk.ind (ι:=List Pc×Nat) (fun i=>p.procs.drop i.2=i.1∧(match jc v.proc i.1 with | none=>false | some q=>DE q.params v.args)=R) (fun i=>i.1.length)
  (fun i=> [(3, .ptr 1 0),(11, .slice .shared 5 (p.procs.map bq)),(12, .int .i64 (p.procs.length:Int)),(13, .int .i64 (i.2:Int))]) (fun i=>⟨[bC p,aU v],[]⟩) ?_ (p.procs,0) ⟨rfl,hR⟩)
 clear hR
 rintro⟨rest,k⟩ ⟨h1,hR⟩ IH
 dsimp only at h1 hR
 cases rest with
 | nil=>
  have hF:=drop_nil h1
  simp only [jc]at hR
  subst hR
  repeat' (first
 | simp only [go_sem,hF,hP,hZ,gA]
 | (with_reducible refine aG hQ ?_;simp only [ay,az,Option.some.injEq,exists_eq_left',go_sem,hF,hP,hZ,gA];repeat' (first | exact Ok.out | with_reducible refine aI ?_ ?_ | (simp;done))))
 | cons a rest=>
  obtain⟨hP,g2,hF,g4⟩:=drop_cons h1
  have cv:k<4611686018427387904:=by omega
  have FR:=h.small (List.mem_of_getElem? hP)
  have WG:=fun s=>abW (l:=a.params) (m:=v.args) (by have:=FR.par;omega) tv s
  simp only [jc]at hR
  rcases Bool.eq_false_or_eq_true (a.name==v.proc)with c1 | c1
  ·simp only [c1,if_true]at hR
   subst hR
   repeat' (first
 | simp only [go_sem,hF,hP,hZ,gA,c1]
 | (with_reducible refine CU (WG _) ?_)
 | (with_reducible refine aG hQ ?_;simp only [ay,az,Option.some.injEq,exists_eq_left',go_sem,hF,hP,hZ,gA];repeat' (first | exact Ok.out | with_reducible refine aI ?_ ?_ | (simp;done))))
  ·simp only [c1,Bool.false_eq_true,if_false]at hR
   repeat' (first
 | simp only [go_sem,hF,hP,hZ,gA,c1]
 | (with_reducible refine aG hQ ?_;simp only [ay,az,Option.some.injEq,exists_eq_left',go_sem,hF,hP,hZ,gA];repeat' (first | exact Ok.out | with_reducible refine aI ?_ ?_ | (simp;done))))
   refine dZ 2 0 ?_ ?_ (IH (rest,k+1) ⟨g2,hR⟩ (Nat.lt_succ_self _))
   ·(simp only [go_sem,hF,hP,hZ,gA,aM cv];try exact bO)
   ·(simp only [go_sem,hF,hP,hZ,gA,aM cv];try exact bO)
def DF (p:Pg):List Sm→Option Sm
 | []=>none
 | v::l=>if v.kind==4 && !(v.l6 p)then some v else DF p l
def pE (c:Int):Option Sm→Int×Int
 | some v=>(c,v.id)
 | none=>(0,0)
def Pg.arity (p:Pg):Int×Int:=if p.scope.1==0 then pE 6 (DF p p.pre)else(1,0)
theorem Pg.ki.pre {p:Pg} (h:p.ki) : ∀ v∈p.pre,v.pC:=fun v m=>by
 simp only [Pg.pre,List.mem_flatten,List.mem_map]at m
 obtain⟨l,⟨f,hf,rfl⟩,m⟩:=m
 exact h.said hf v m
theorem IX {p:Pg} (h:p.ki) (s:St):aB Tryz.prog pK [.agg (bC p)] s (.agg [.int .i64 p.arity.1, .int .i64 p.arity.2]) s:=by
 refine aB.pure ?_ (by simp [D.bp,D.ok,gl]) rfl s
 obtain⟨uq,tA,zi⟩:=h.procs
 have ti:=fun s=>uU h s
 have dF:=fun s=>Dy (p:=p) (by omega) s
 have hL:=(qi p).1
 have hll:=qj p
 generalize hR:p.arity=R
 simp only [Pg.arity]at hR
 unfold S0
 have b0:(p.scope.1 != 0) = !(p.scope.1==0):=rfl
 rcases Bool.eq_false_or_eq_true (p.scope.1==0)with b1 | b1
 case inr=>
  rw [b1]at b0
  simp only [b1,Bool.false_eq_true,if_false]at hR
  subst hR
  refine aB.go vE rfl fun B Q hB hQ=> ?_
  have⟨hF,hP,hZ,gA⟩:=bH
  repeat' (first
 | simp only [go_sem,hF,hP,hZ,gA,b0,Bool.not_false]
 | (with_reducible refine CU (ti _) ?_)
 | (with_reducible refine aG hQ ?_;simp only [ay,az,Option.some.injEq,exists_eq_left',go_sem,hF,hP,hZ,gA];repeat' (first | exact Ok.out | with_reducible refine aI ?_ ?_ | (simp;done))))
 rw [b1]at b0
 simp only [b1,if_true, ← hL]at hR
 refine aB.go vE rfl fun B Q hB hQ=> ?_
 have⟨hF,hP,hZ,gA⟩:=bH
 repeat' (first
 | simp only [go_sem,hF,hP,hZ,gA,b0,Bool.not_true,rM]
 | (with_reducible refine CU (ti _) ?_)
 | (with_reducible refine CU (dF _) ?_)
 | (with_reducible refine aG hQ ?_;simp only [ay,az,Option.some.injEq,exists_eq_left',go_sem,hF,hP,hZ,gA];repeat' (first | exact Ok.out | with_reducible refine aI ?_ ?_ | (simp;done))))
 refine cU 2 0 (bk.ind (ι:=List Im×Nat) (fun i=>p.fx.L.drop i.2=i.1∧pE 6 (DF p (i.1.map Im.s))=R) (fun i=>i.1.length)
  (fun i=> [(1, .ptr 0 0),(2, .ptr 1 0),(14, .slice .shared 17 (p.fx.L.map ff)),(15, .int .i64 (p.fx.L.length:Int)),(16, .int .i64 (i.2:Int))]) (fun i=>⟨[bC p,[.int .i64 0, .int .i64 0]],[]⟩) ?_ (p.fx.L,0) ⟨rfl,hR⟩)
 clear hR
 rintro⟨rest,k⟩ ⟨h1,hR⟩ IH
 dsimp only at h1 hR
 cases rest with
 | nil=>
  have hF:=drop_nil h1
  simp only [List.map_nil,DF,pE]at hR
  subst hR
  repeat' (first
 | simp only [go_sem,hF,hP,hZ,gA]
 | (with_reducible refine aG hQ ?_;simp only [ay,az,Option.some.injEq,exists_eq_left',go_sem,hF,hP,hZ,gA];repeat' (first | exact Ok.out | with_reducible refine aI ?_ ?_ | (simp;done))))
 | cons a rest=>
  obtain⟨hP,g2,hF,g4⟩:=drop_cons h1
  have cv:k<4611686018427387904:=by omega
  have FT:a.s∈p.pre:=by rw [← hL];exact List.mem_map_of_mem (List.mem_of_getElem? hP)
  have hf1:=fun s=>abX h (h.pre _ FT) s
  simp only [List.map_cons,DF]at hR
  rcases Bool.eq_false_or_eq_true (a.s.kind==4)with c1 | c1
  ·rcases Bool.eq_false_or_eq_true (a.s.l6 p)with c2 | c2
   ·simp only [c1,c2,Bool.not_true,Bool.and_false,Bool.false_eq_true,if_false]at hR
    repeat' (first
 | simp only [go_sem,hF,hP,hZ,gA,c1,c2]
 | (with_reducible refine CU (hf1 _) ?_)
 | (with_reducible refine aG hQ ?_;simp only [ay,az,Option.some.injEq,exists_eq_left',go_sem,hF,hP,hZ,gA];repeat' (first | exact Ok.out | with_reducible refine aI ?_ ?_ | (simp;done))))
    refine dZ 2 0 ?_ ?_ (IH (rest,k+1) ⟨g2,hR⟩ (Nat.lt_succ_self _))
    ·(simp only [go_sem,hF,hP,hZ,gA,aM cv];try exact bO)
    ·(simp only [go_sem,hF,hP,hZ,gA,aM cv];try exact bO)
   ·simp only [c1,c2,Bool.not_false,Bool.and_true,if_true,pE]at hR
    subst hR
    repeat' (first
 | simp only [go_sem,hF,hP,hZ,gA,c1,c2]
 | (with_reducible refine CU (hf1 _) ?_)
 | (with_reducible refine aG hQ ?_;simp only [ay,az,Option.some.injEq,exists_eq_left',go_sem,hF,hP,hZ,gA];repeat' (first | exact Ok.out | with_reducible refine aI ?_ ?_ | (simp;done))))
  ·simp only [c1,Bool.false_and,Bool.false_eq_true,if_false]at hR
   repeat' (first
 | simp only [go_sem,hF,hP,hZ,gA,c1]
 | (with_reducible refine CU (hf1 _) ?_)
 | (with_reducible refine aG hQ ?_;simp only [ay,az,Option.some.injEq,exists_eq_left',go_sem,hF,hP,hZ,gA];repeat' (first | exact Ok.out | with_reducible refine aI ?_ ?_ | (simp;done))))
   refine dZ 2 0 ?_ ?_ (IH (rest,k+1) ⟨g2,hR⟩ (Nat.lt_succ_self _))
   ·(simp only [go_sem,hF,hP,hZ,gA,aM cv];try exact bO)
   ·(simp only [go_sem,hF,hP,hZ,gA,aM cv];try exact bO)
end Go.Abs

/-! Ar3 -/

namespace Go.Abs
set_option maxRecDepth 8000
open Go.Proofs
theorem Aw {p:Pg} (h:(p.scope.1==0)=true):p.may=true:=by
 unfold Pg.scope at h
 split at h
 ·assumption
 ·cases h
end Go.Abs

/-! Srt1 -/

namespace Go.Abs
set_option maxRecDepth 8000
open Go.Proofs
def mI (out:List aC):List aC→aC→Bool→aC×Bool
 | [],c,a=>(c,a)
 | s::l,c,a=>if !(er out s) && (!a || bytesLess s c)then mI out l s true else mI out l c a
def QP (l out:List aC):List aC:=if(mI out l [] false).2 then out++ [(mI out l [] false).1]else out
def oV (l:List aC):Nat→List aC→List aC
 | 0,out=>out
 | n+1,out=>oV l n (QP l out)
def jE (l:List aC):List aC:=oV l l.length []
end Go.Abs

/-! Shelf -/

namespace Go.Proofs
open Go.Shelf
def Tryz.Kj:Go.Shelf.Ren:=⟨fun | 190=>126 | 125=>169 | 258=>168 | 128=>202 | 129=>203 | 302=>193 | 303=>194 | 304=>195 | 305=>196 | 306=>197 | 307=>198 | 308=>199 | 309=>200 | 310=>201 | 333=>220 | 329=>221 | 330=>222 | 334=>223 | 335=>224 | 336=>225 | 344=>238 | n=>n,fun | 31=>22 | 9=>9 | 3=>3 | 46=>177 | 0=>0 | 51=>194 | 53=>196 | 4=>4 | 183=>187 | 182=>186 | 131=>131 | 5=>5 | 218=>209 | 222=>213 | 228=>221 | 229=>218 | n=>n,fun | n=>n⟩
theorem Tryz.KZ:Go.Proofs.Lays.n190 Tryz.prog Tryz.Kj:= {
 mixed:=by kernel_rfl
 f125:=Tryz.func169.trans (congrArg some (by kernel_rfl))
 f128:=Tryz.func202.trans (congrArg some (by kernel_rfl))
 f129:=Tryz.func203.trans (congrArg some (by kernel_rfl))
 f190:=Tryz.func126.trans (congrArg some (by kernel_rfl))
 f258:=Tryz.func168.trans (congrArg some (by kernel_rfl))
 f302:=Tryz.func193.trans (congrArg some (by kernel_rfl))
 f303:=Tryz.func194.trans (congrArg some (by kernel_rfl))
 f304:=Tryz.func195.trans (congrArg some (by kernel_rfl))
 f305:=Tryz.func196.trans (congrArg some (by kernel_rfl))
 f306:=Tryz.func197.trans (congrArg some (by kernel_rfl))
 f307:=Tryz.func198.trans (congrArg some (by kernel_rfl))
 f308:=Tryz.func199.trans (congrArg some (by kernel_rfl))
 f309:=Tryz.func200.trans (congrArg some (by kernel_rfl))
 f310:=Tryz.func201.trans (congrArg some (by kernel_rfl))
 f329:=Tryz.func221.trans (congrArg some (by kernel_rfl))
 f330:=Tryz.func222.trans (congrArg some (by kernel_rfl))
 f333:=Tryz.func220.trans (congrArg some (by kernel_rfl))
 f334:=Tryz.func223.trans (congrArg some (by kernel_rfl))
 f335:=Tryz.func224.trans (congrArg some (by kernel_rfl))
 f336:=Tryz.func225.trans (congrArg some (by kernel_rfl))
 f344:=Tryz.func238.trans (congrArg some (by kernel_rfl))
 t0:=Tryz.underlying0
 a0:=Tryz.isAgg0
 z0:=Tryz.sizeOf0
 v0:=Tryz.zeroValue0
 t3:=Tryz.underlying3
 a3:=Tryz.isAgg3
 z3:=Tryz.sizeOf3
 v3:=Tryz.zeroValue3
 t4:=Tryz.underlying4
 a4:=Tryz.isAgg4
 z4:=Tryz.sizeOf4
 v4:=Tryz.zeroValue4
 t5:=Tryz.underlying5
 a5:=Tryz.isAgg5
 z5:=Tryz.sizeOf5
 v5:=Tryz.zeroValue5
 t9:=Tryz.underlying9
 a9:=Tryz.isAgg9
 z9:=Tryz.sizeOf9
 v9:=Tryz.zeroValue9
 t31:=Tryz.underlying22
 a31:=Tryz.isAgg22
 z31:=Tryz.sizeOf22
 v31:=Tryz.zeroValue22
 t46:=Tryz.underlying177
 a46:=Tryz.isAgg177
 z46:=Tryz.sizeOf177
 v46:=Tryz.zeroValue177
 t51:=Tryz.underlying194
 a51:=Tryz.isAgg194
 z51:=Tryz.sizeOf194
 v51:=Tryz.zeroValue194
 t53:=Tryz.underlying196
 a53:=Tryz.isAgg196
 z53:=Tryz.sizeOf196
 v53:=Tryz.zeroValue196
 t131:=Tryz.underlying131
 a131:=Tryz.isAgg131
 z131:=Tryz.sizeOf131
 v131:=Tryz.zeroValue131
 t182:=Tryz.underlying186
 a182:=Tryz.isAgg186
 z182:=Tryz.sizeOf186
 v182:=Tryz.zeroValue186
 t183:=Tryz.underlying187
 a183:=Tryz.isAgg187
 z183:=Tryz.sizeOf187
 v183:=Tryz.zeroValue187
 t218:=Tryz.underlying209
 a218:=Tryz.isAgg209
 z218:=Tryz.sizeOf209
 v218:=Tryz.zeroValue209
 t222:=Tryz.underlying213
 a222:=Tryz.isAgg213
 z222:=Tryz.sizeOf213
 v222:=Tryz.zeroValue213
 t228:=Tryz.underlying221
 a228:=Tryz.isAgg221
 z228:=Tryz.sizeOf221
 v228:=Tryz.zeroValue221
 t229:=Tryz.underlying218
 a229:=Tryz.isAgg218
 z229:=Tryz.sizeOf218
 v229:=Tryz.zeroValue218}
open Go.Sort Go.RowKit in
theorem Tryz.slices_Sort_string (Ax off cap:Nat) (ss:List (List UInt8)) (w:World) (hH:Holds encStr w Ax off ss.toArray) (aot:Ax<w.heap.size) (dK:ss.length<4611686018427387904) :
 Calls Tryz.prog 126 #[.slice (some ⟨Ax,off,none⟩) ss.length cap] w fun e w'=>
  e = .returned (.tuple #[])∧∃ n os,w'=grow (putRow encStr (Sort.ahead w n) Ax off (ss.mergeSort fun x y=>decide (x≤y)).toArray) os:=Any.slices_Sort_string Tryz.KZ Ax off cap ss w hH aot dK
def Tryz.Kk:Go.Shelf.Ren:=⟨fun | 194=>127 | n=>n,fun | 31=>22 | 9=>9 | 3=>3 | 4=>4 | 0=>0 | n=>n,fun | n=>n⟩
theorem Tryz.K0:Go.Proofs.Lays.n194 Tryz.prog Tryz.Kk:= {
 mixed:=by kernel_rfl
 f194:=Tryz.func127.trans (congrArg some (by kernel_rfl))
 t0:=Tryz.underlying0
 a0:=Tryz.isAgg0
 z0:=Tryz.sizeOf0
 v0:=Tryz.zeroValue0
 t3:=Tryz.underlying3
 a3:=Tryz.isAgg3
 z3:=Tryz.sizeOf3
 v3:=Tryz.zeroValue3
 t4:=Tryz.underlying4
 a4:=Tryz.isAgg4
 z4:=Tryz.sizeOf4
 v4:=Tryz.zeroValue4
 t9:=Tryz.underlying9
 a9:=Tryz.isAgg9
 z9:=Tryz.sizeOf9
 v9:=Tryz.zeroValue9
 t31:=Tryz.underlying22
 a31:=Tryz.isAgg22
 z31:=Tryz.sizeOf22
 v31:=Tryz.zeroValue22}
open Go.RowKit Go.Lib Go.Sort in
theorem Tryz.slices_Compact_string (Ax off cap:Nat) (zs:List (List UInt8)) (w:World) (hH:Holds encStr w Ax off zs.toArray) (dK:zs.length≤9223372036854775807) (sR:zs.length≤cap) :
 Calls Tryz.prog 127 #[.slice (some ⟨Ax,off,none⟩) zs.length cap] w fun e w'=>e = .returned (.slice (some ⟨Ax,off,none⟩) (Lib.compact zs).length cap)∧∃ q,w'=putRow encStr (Sort.ahead w q) Ax off (Lib.compact zs++List.replicate (zs.length - (Lib.compact zs).length) []).toArray:=Any.slices_Compact_string Tryz.K0 Ax off cap zs w hH dK sR
open Go.RowKit Go.Lib Go.Sort in
theorem Tryz.slices_Compact_string_empty (a:Option Addr) (cap:Nat) (w:World) :
 Calls Tryz.prog 127 #[.slice a 0 cap] w fun e w'=>e = .returned (.slice a 0 cap)∧w'=w:=Any.slices_Compact_string_empty Tryz.K0 a cap w
open Go.RowKit Go.Sort in
theorem Tryz.slices_Sort_string_none (p:Option Addr) (cap:Nat) (w:World) :
 Calls Tryz.prog 126 #[.slice p 0 cap] w fun e w'=>e = .returned (.tuple #[])∧w'=w:=Any.slices_Sort_string_none Tryz.KZ p cap w
end Go.Proofs

/-! SortR -/

namespace Go.Abs
open Go.Proofs
section
variable {P:Program} {B:fv} {nt:Nat}
theorem Yj {x:Operand} {t:Nat} (h:cX x=some (.s t)):x = .tmp t:=by
 unfold cX at h
 split at h
 ·cases h;rfl
 ·obtain⟨d,_,h⟩:=map_some h;cases h
 ·cases h
 ·cases h
theorem N3 {ops:Array Oper} {o:Oper} {g g':Option (Nat×Bool)} {dst:Option Nat} {f:Nat} {xs:List X} (h:rT P ops o g=some (.call dst g' f xs)) :
 g'=g∧∃ args ny,o.op = .call ⟨.value (.func f),args,ny⟩∧enters P f=true∧wX args.toList=some xs:=by
 unfold rT at h
 split at h
 ·rename_i f' args ny lX
  split at h
  ·rename_i he
   obtain⟨xs',h1,h2⟩:=map_some h
   cases h2
   exact⟨rfl,args,ny,lX,he,h1⟩
  ·cases h
 ·obtain⟨_,_,h⟩:=map_some h;cases h
 ·split at h
  ·cases h
  ·split at h <;> cases h
theorem QQ {ops:Array Oper} {o:Oper} {tmps:Array Value} (hg:ui ops o.guard=some none):Region.wanted o (yielded ops tmps)=true:=by
 have:o.guard=none:=by
  cases Fm:o.guard with
  | none=>rfl
  | some p=>
   obtain⟨j,b⟩:=p
   rw [Fm]at hg
   unfold ui at hg
   simp only at hg
   split at hg <;> cases hg
 simp [Region.wanted,this]
theorem Sem.ab0 {a k b f:Nat} {is:List AI} {Q:Exit→Tm→St→Prop} {tm:Tm} {s:St}
 (afD : ∀ act w,Holds B nt (tm.put (some a) (tm.get k)) s act w→Calls P f #[act.tmps.getD a Go.undef] w fun e w'=>∃ v,e = .returned v∧∃ bt s',Holds B nt bt s' (act.put (some b) v) w'∧iG P is (Q .normal) bt s') :
 Sem P B nt (.run (.op (some a) none (.mv (.s k)):: .call (some b) none f [.s a]::is)) Q tm s:=by
 intro c hc act w hh
 obtain⟨id,ops,rfl,hi⟩:=kP hc
 refine wp_region ?_
 have key : ∀ (l:List Nat) (ol:List Oper),l.map (ops[·]?)=ol.map some→qo P nt ops ol=some (.op (some a) none (.mv (.s k)):: .call (some b) none f [.s a]::is)→wpOps P ops (pb B nt Q) l act w:=by
  intro l ol hl wk
  match ol,l,hl with
  | [],_,_=>simp [qo]at wk
  | o0::ol,[],hl=>simp at hl
  | o0::ol,j0::l,hl=>
   simp only [List.map_cons,List.cons.injEq]at hl
   obtain⟨hj0,hl⟩:=hl
   unfold qo at wk
   split at wk
   ·rename_i i0 is0 h1 h2
    cases wk
    match ol,l,hl,h2 with
    | [],_,_,h2=>simp [qo]at h2
    | o1::ol,[],hl,_=>simp at hl
    | o1::ol,j1::l,hl,h2=>
     simp only [List.map_cons,List.cons.injEq]at hl
     obtain⟨hj1,hl⟩:=hl
     unfold qo at h2
     split at h2
     ·rename_i i1 is1 h3 h4
      cases h2
      obtain⟨M,e,r,ht,hn,hd⟩:=hh
      have IY:=sF h1
      have IZ:=sF h3
      simp only [AI.dst]at IY IZ
      refine wj (K':=fun bt s'=>bt=tm.put (some a) (tm.get k)∧s'=s) hj0 h1 r (B.laid.ext e) ht (by simp only [iG,guarded,aW,X.ev,and_self]) (fun d v s1 w1 M1 hk e1 r1 hv=> ?_)
      obtain⟨uj,rfl⟩:=hk
      have hH:=Holds.put e ht hn hd (xd h1) e1 r1 hv
      simp only [AI.dst]at uj
      rw [← IY]at hH ⊢
      rw [uj]at hH
      obtain⟨g,hg,_,hb⟩:=zY h3
      obtain⟨rfl,args,ny,lX,x8,nW⟩:=N3 hb
      simp only [wpOps,hj1,QQ hg,if_true]
      left
      have TK:args.map (act.put (some a) v).eval = #[(act.put (some a) v).tmps.getD a Go.undef]:=by
       have:args.toList = [.tmp a]:=by
        match hA:args.toList with
        | []=>rw [hA]at nW;simp [wX]at nW
        | [x]=>
         rw [hA]at nW
         simp only [wX]at nW
         split at nW
         ·rename_i x' r' hx hr
          cases nW
          rw [Yj hx]
         ·cases nW
        | x::y::z=>
         rw [hA]at nW
         simp only [wX]at nW
         split at nW
         ·rename_i x' r' hx hr
          cases nW
          split at hr
          ·cases hr
          ·cases hr
         ·cases nW
       have:args = #[.tmp a]:=by rw [← Array.toArray_toList (xs:=args),this]
       rw [this]
       simp only [List.map_toArray,List.map_cons,List.map_nil]
       rfl
      have hex:(execOp (act.put (some a) v).eval o1).run P w1 = .ok (.enter f #[(act.put (some a) v).tmps.getD a Go.undef]) w1:=by
       obtain⟨dst,op,type,pos,after,guard⟩:=o1
       simp only at lX
       subst lX
       rw [← TK]
       exact wc (act.put (some a) v).eval dst f args ny type pos after guard rfl x8 w1
      unfold Oper.wp
      rw [hex,Oper.upon_enter]
      refine(afD _ _ hH).mono ?_
      rintro en w' ⟨v',rfl,bt,s',hH',hvc⟩
      rw [← IZ]
      exact zU (Q:=Q) l ol _ hl h4 bt s' _ w' hvc hH'
     ·cases h2
   ·cases wk
 exact key _ _ (zV ops) hi
theorem FU (hB:B.s = ⟨[],[]⟩) {tm:Tm} {s:St} {act:Act} {w:World} (h:Holds B nt tm s act w) {t:Nat} {l:List aC} (ht:s.aA[t]? = some (some l.length)) {k0:Nat} (hk0:tm.get k0 = .slice (.tok t) 1 (l.map encStr)) :
 (l = []∧∀ k,tm.get k = .slice (.tok t) 1 (l.map encStr)→(act.tmps.getD k Go.undef = .slice none 0 0∨∃ b q,act.tmps.getD k Go.undef = .slice (some ⟨b,q,none⟩) 0 0))∨
 ∃ (b cap:Nat) (vs:Array Value) (T:TypeId),(∀ k,tm.get k = .slice (.tok t) 1 (l.map encStr)→act.tmps.getD k Go.undef = .slice (some ⟨b,0,none⟩) l.length cap)∧l.length≤cap∧w.heap[b]? = some (.cells vs T (0,0))∧vs.size=cap∧B.w.heap.size≤b∧
  ∀ j (hj:j<l.length),vs[j]? = some (.string ⟨⟨l[j]⟩⟩):=by
 obtain⟨M,e,r,hr,_,_⟩:=h
 rcases r.tok t _ ht with ⟨h3,h4⟩ | ⟨b,cap,z,vs,T,h3,h4,h5,h6,h7⟩
 ·have hl:l = []:=List.eq_nil_of_length_eq_zero h4
  subst hl
  refine .inl ⟨rfl,fun k hk=> ?_⟩
  have hv:=hr k
  rw [hk]at hv
  generalize act.tmps.getD k Go.undef=v at hv
  cases hv with
  | iP _ _ cap hc o5=>subst hc;exact .inl rfl
  | slice _ _ _ b q cap hl hs h1 h2 o5=>
   rcases(o5.2 _ ht).2 rfl with ⟨_,h0,_⟩ | ⟨b',_,ke⟩
   ·subst h0;exact .inr ⟨b,q,rfl⟩
   ·rw [h3]at ke;cases ke
 ·right
  have each : ∀ k,tm.get k = .slice (.tok t) 1 (l.map encStr)→z=1∧act.tmps.getD k Go.undef = .slice (some ⟨b,0,none⟩) l.length cap∧l.length≤cap∧∀ j (hj:j<l.length),∃ u,M.G b j=some u∧RD M s (.str l[j]) u:=by
   intro k hk
   have hv:=hr k
   rw [hk]at hv
   generalize act.tmps.getD k Go.undef=v at hv
   generalize kW:l.map encStr=rows at hv
   cases hv with
   | iP _ _ cap hc o5=>
    have hl:l = []:=by cases l <;> simp at kW;rfl
    subst hl
    rcases(o5.2 _ ht).2 rfl with ⟨h0,_⟩ | ⟨b',h0,_⟩
    ·rw [h3]at h0;cases h0
    ·cases h0
   | slice _ _ _ b2 q awy hl hs h1 h2 o5=>
    subst kW
    rw [List.length_map]at hl o5
    rcases(o5.2 _ ht).2 rfl with ⟨h0,_⟩ | ⟨b',hb,ke⟩
    ·rw [h3]at h0;cases h0
    ·cases hb
     rw [h3]at ke
     cases ke
     refine⟨rfl,by rw [List.length_map],hl,fun j hj=> ?_⟩
     have e1:(l.map encStr)[j]? = some [.str l[j]]:=by rw [List.getElem?_map,List.getElem?_eq_getElem hj];rfl
     obtain⟨u,hu⟩:=h1 j _ 0 _ e1 rfl
     refine⟨u,by simpa using hu,h2 j _ 0 _ u e1 rfl hu⟩
  obtain⟨rfl,_,sR,lx⟩:=each k0 hk0
  have dF:B.w.heap.size≤b:=by
   rcases e.o7 t b cap 1 ⟨_,ht⟩ h3 with ⟨⟨n,hn⟩,_⟩ | h
   ·rw [hB]at hn;simp at hn
   ·exact h
  refine⟨b,cap,vs,T,fun k hk=>(each k hk).2.1,sR,h4,by simpa [zs]using h5,dF,fun j hj=> ?_⟩
  obtain⟨u,hu,iU⟩:=lx j hj
  have:=(r.comm _ _ _ hu).1
  rw [iJ h4,iU.kI]at this
  exact this
theorem I0 (hB:B.s = ⟨[],[]⟩) {tm:Tm} {s:St} {act tc:Act} {w w':World} (h:Holds B nt tm s act w) {b cap:Nat} {vs:Array Value} {T:TypeId} (dK:vs.size=cap) (si:B.w.heap.size≤b)
 (ln : ∀ q,q<B.w.heap.size→w'.heap[q]? = w.heap[q]?) (ek:w'.heap[b]? = some (.cells vs T (0,0))) (eK:w.heap.size≤w'.heap.size) (tr:w'.os=w.os) (CP:w'.tape=w.tape) (R3:w'.output=w.output)
 {l:List aC} (hl:l.length≤cap) (lx : ∀ j (hj:j<l.length),vs[j]? = some (.string ⟨⟨l[j]⟩⟩)) {k:Nat} (N4:tc.tmps.getD k Go.undef = .slice (some ⟨b,0,none⟩) l.length cap) (hn:tc.tmps.size=nt) (hd:tc.defers = []) :
 Holds B nt [(k, .slice (.tok 0) 1 (l.map encStr))] ⟨[],[some l.length]⟩ tc w':=by
 obtain⟨M,e,r,hr,_,_⟩:=h
 let M':Map:=⟨fun q o=>if q=b then(if o<l.length then(l[o]?).map fun x=>Value.string ⟨⟨x⟩⟩else none)else B.M.G q o,B.M.loc,fun _=>some (b,cap,1)⟩
 have hGb : ∀ q o v,B.M.G q o=some v→q<B.w.heap.size∧w'.cell? ⟨q,o,none⟩=some v∧v.oneCell'=true:=by
  intro q o v hq
  obtain⟨h1,h2⟩:=r.comm q o v (e.le.G q o v hq)
  have hF:=B.old q o v hq
  refine⟨hF, ?_,h2⟩
  rw [← h1]
  simp [World.cell?,ln q hF]
 have qs : ∀ j (hj:j<l.length),w'.cell? ⟨b,j,none⟩=some (.string ⟨⟨l[j]⟩⟩):=fun j hj=>by rw [iJ ek];exact lx j hj
 have hP : ∀ (j:Nat) v,(if j<l.length then(l[j]?).map fun x=>Value.string ⟨⟨x⟩⟩else none)=some v→∃ hj:j<l.length,v = .string ⟨⟨l[j]⟩⟩:=by
  intro j v hv
  split at hv
  ·rename_i hj
   rw [List.getElem?_eq_getElem hj]at hv
   exact⟨hj,by simpa using hv.symm⟩
  ·cases hv
 refine⟨M',⟨⟨fun q o v hq=> ?_,by simp [hB],fun o ho=> .refl _,by rw [hB];exact Nat.zero_le _,fun t n' ht _=>by rw [hB]at ht;exact absurd ht (Nat.not_lt_zero _)⟩,fun q hq _ _=> ?_,fun o _ h2=>absurd h2 (Nat.not_lt_zero _),fun t q c z _ hb=> ?_,fun q o eJ=> ?_,Nat.le_trans e.size eK,tr.trans e.os,CP.trans e.tape,R3.trans e.output⟩,
  ⟨fun q o v hq=> ?_,fun o ds ho=>by simp at ho,fun o ho=>absurd ho (Nat.not_lt_zero _),fun o o' ho=>absurd ho (Nat.not_lt_zero _),fun t n ht=> ?_,fun t q c z o _ _ ho=>absurd ho (Nat.not_lt_zero _),fun t t' q c z c' z' Dk qu _ _=> ?_⟩,fun u=> ?_,hn,hd⟩
 ·show(if q=b then _ else B.M.G q o)=some v
  rw [if_neg (by have:=(hGb q o v hq).1;omega)]
  exact hq
 ·rw [ln q hq]
  exact e.kept q hq (fun o ho=>by rw [hB]at ho;exact absurd ho (Nat.not_lt_zero _)) (fun t c z qu=>by rw [hB]at qu;obtain⟨n,zh⟩:=qu;simp at zh)
 ·cases hb;exact .inr si
 ·by_cases hq:q=b
  ·subst hq;exact .inl si
  ·exact absurd (show(if q=b then _ else B.M.G q o)=B.M.G q o from if_neg hq) eJ
 ·have k7:(if q=b then(if o<l.length then(l[o]?).map fun x=>Value.string ⟨⟨x⟩⟩else none)else B.M.G q o)=some v:=hq
  by_cases hqb:q=b
  ·rw [if_pos hqb]at k7
   obtain⟨hj,rfl⟩:=hP o v k7
   rw [hqb]
   exact⟨qs o hj,rfl⟩
  ·rw [if_neg hqb]at k7
   exact(hGb q o v k7).2
 ·match t with
  | 0=>
   simp at ht
   subst ht
   refine .inr ⟨b,cap,1,vs,T,rfl,ek,by simp [zs,dK],hl,fun off ho=> ?_,fun h=>by cases h⟩
   show(if b=b then(if off<l.length then _ else none)else B.M.G b off)=none
   rw [if_pos rfl,if_neg (by simp [zs]at ho;omega)]
  | t+1=>simp at ht
 ·obtain⟨n1,h1⟩:=Dk
  obtain⟨n2,h2⟩:=qu
  have a1:=(List.getElem?_eq_some_iff.1 h1).1
  have a2:=(List.getElem?_eq_some_iff.1 h2).1
  simp at a1 a2
  omega
 ·simp only [Tm.get]
  split
  ·rename_i hku
   subst hku
   rw [N4]
   have:=RD.slice (M:=M') (s:=⟨[],[some l.length]⟩) (.tok 0) 1 (l.map encStr) b 0 cap (by simpa using hl) (fun row hr=>by
    obtain⟨x,_,rfl⟩:=List.mem_map.1 hr;rfl) (fun i row j d e1 e2=> ?_) (fun i row j d u e1 e2 eu=> ?_) ⟨by simp,fun n zh=>by
    simp at zh
    subst zh
    exact⟨by simp,fun _=> .inr ⟨b,rfl,rfl⟩⟩⟩
   ·simpa using this
   ·rw [List.getElem?_map]at e1
    cases yY:l[i]? with
    | none=>rw [yY]at e1;cases e1
    | some x=>
     have qe:=(List.getElem?_eq_some_iff.1 yY).1
     rw [yY]at e1
     cases e1
     have hj:j=0:=by cases j with | zero=>rfl | succ j=>simp [encStr]at e2
     subst hj
     refine⟨.string ⟨⟨x⟩⟩, ?_⟩
     show(if b=b then(if 0+(i*1+0)<l.length then _ else none)else _)=_
     rw [if_pos rfl,if_pos (by omega)]
     simp [yY]
   ·rw [List.getElem?_map]at e1
    cases yY:l[i]? with
    | none=>rw [yY]at e1;cases e1
    | some x=>
     have qe:=(List.getElem?_eq_some_iff.1 yY).1
     rw [yY]at e1
     cases e1
     have hj:j=0:=by cases j with | zero=>rfl | succ j=>simp [encStr]at e2
     subst hj
     have Dx:(if b=b then(if 0+(i*1+0)<l.length then(l[0+(i*1+0)]?).map fun x=>Value.string ⟨⟨x⟩⟩else none)else B.M.G b (0+(i*1+0)))=some u:=eu
     rw [if_pos rfl,if_pos (by omega)]at Dx
     simp [yY]at Dx
     subst Dx
     simp [encStr]at e2
     subst e2
     exact .str x
  ·exact .junk _
theorem K1 (hB:B.s = ⟨[],[]⟩) {tm:Tm} {s:St} {act tc:Act} {w:World} (h:Holds B nt tm s act w) {k:Nat} (N4:tc.tmps.getD k Go.undef = .slice none 0 0∨∃ b q,tc.tmps.getD k Go.undef = .slice (some ⟨b,q,none⟩) 0 0) (hn:tc.tmps.size=nt) (hd:tc.defers = []) :
 Holds B nt [(k, .slice (.tok 0) 1 (([] : List aC).map encStr))] ⟨[],[some 0]⟩ tc w:=by
 obtain⟨M,e,r,hr,_,_⟩:=h
 let M':Map:=⟨B.M.G,B.M.loc,fun _=>none⟩
 refine⟨M',⟨⟨fun q o v hq=>hq,by simp [hB],fun o ho=> .refl _,by rw [hB];exact Nat.zero_le _,fun t n' ht _=>by rw [hB]at ht;exact absurd ht (Nat.not_lt_zero _)⟩,fun q hq _ _=> ?_,fun o _ h2=>absurd h2 (Nat.not_lt_zero _),fun t q c z _ hb=>(by cases hb),fun q o eJ=>absurd rfl eJ,e.size,e.os,e.tape,e.output⟩,
  ⟨fun q o v hq=>r.comm q o v (e.le.G q o v hq),fun o ds ho=>by simp at ho,fun o ho=>absurd ho (Nat.not_lt_zero _),fun o o' ho=>absurd ho (Nat.not_lt_zero _),fun t n ht=> ?_,fun t q c z o _ _ ho=>absurd ho (Nat.not_lt_zero _),fun t t' q c z c' z' Dk qu h1 _=>by cases h1⟩,fun u=> ?_,hn,hd⟩
 ·exact e.kept q hq (fun o ho=>by rw [hB]at ho;exact absurd ho (Nat.not_lt_zero _)) (fun t c z qu=>by rw [hB]at qu;obtain⟨n,zh⟩:=qu;simp at zh)
 ·match t with
  | 0=>simp at ht;subst ht;exact .inl ⟨rfl,rfl⟩
  | t+1=>simp at ht
 ·simp only [Tm.get]
  split
  ·rename_i hku
   subst hku
   have o5 : ∀ base,iz M' ⟨[],[some 0]⟩ (.tok 0) 1 0 base 0:=fun base=>⟨by simp,fun n zh=>by
    simp at zh
    subst zh
    exact⟨Nat.le_refl _,fun _=> .inl ⟨rfl,rfl,fun h=>by cases h⟩⟩⟩
   rcases N4 with h | ⟨b,q,h⟩
   ·rw [h];exact .iP _ _ 0 rfl (o5 none)
   ·rw [h];exact .slice (.tok 0) 1 [] b q 0 (Nat.le_refl _) (by simp) (by simp) (by simp) (o5 _)
  ·exact .junk _
theorem I1 {α:Type} [Inhabited α] (enc:α→Value) (d:Array α) (c:Array Value) (j:Nat):(Sort.putCells enc 0 d c)[j]? = if j<d.size then(c[j]?).map fun _=>enc d[j]! else c[j]? :=by
 simp only [Sort.putCells,Array.getElem?_mapIdx]
 cases h:c[j]? with
 | none=>simp
 | some x=>by_cases hj:j<d.size <;> simp [hj]
theorem FV {w:World} {b n cap:Nat} {vs:Array Value} {T:TypeId} (ek:w.heap[b]? = some (.cells vs T (0,0))) (dK:vs.size=cap) (l:List aC) (hl:l.length≤cap) (os:Array Obj) :
 (∀ q,q≠b→q<w.heap.size→(Sort.grow (Sort.putRow Go.Proofs.encStr (Sort.ahead w n) b 0 l.toArray) os).heap[q]? = w.heap[q]?)∧
 (Sort.grow (Sort.putRow Go.Proofs.encStr (Sort.ahead w n) b 0 l.toArray) os).heap[b]? = some (.cells (Sort.putCells Go.Proofs.encStr 0 l.toArray vs) T (0,0))∧w.heap.size≤(Sort.grow (Sort.putRow Go.Proofs.encStr (Sort.ahead w n) b 0 l.toArray) os).heap.size∧
 (Sort.putCells Go.Proofs.encStr 0 l.toArray vs).size=cap∧∀ j (hj:j<l.length),(Sort.putCells Go.Proofs.encStr 0 l.toArray vs)[j]? = some (.string ⟨⟨l[j]⟩⟩):=by
 have hb:b<w.heap.size:=(Array.getElem?_eq_some_iff.1 ek).1
 refine⟨fun q hq hF=> ?_, ?_, ?_, ?_,fun j hj=> ?_⟩
 ·simp only [Sort.grow,Sort.putRow,Sort.mapBlock,Sort.ahead]
  rw [Array.getElem?_append_left (by simpa using hF),Array.getElem?_modify]
  simp [Ne.symm hq]
 ·simp only [Sort.grow,Sort.putRow,Sort.mapBlock,Sort.ahead]
  rw [Array.getElem?_append_left (by simpa using hb),Array.getElem?_modify]
  simp [ek,Sort.onCells]
 ·simp [Sort.grow,Sort.putRow,Sort.mapBlock,Sort.ahead]
 ·simp [Sort.putCells,dK]
 ·rw [I1]
  have h1:j<l.toArray.size:=by simpa using hj
  have h2:vs[j]? = some vs[j]:=Array.getElem?_eq_getElem (by omega)
  rw [if_pos h1,h2]
  simp [hj]
def lE (l:List aC):List aC:=l.mergeSort fun x y=>decide (x≤y)
theorem I2 {act:Act} {b:Nat} {v:Value} {u:Nat} (h:u≠b):(act.put (some b) v).tmps.getD u Go.undef=act.tmps.getD u Go.undef:=by
 simp only [Act.put,Array.getD_eq_getD_getElem?]
 rw [Array.getElem?_setIfInBounds_ne (fun e=>h e.symm)]
theorem FW {act:Act} {b:Nat} {v:Value} (h:b<act.tmps.size):(act.put (some b) v).tmps.getD b Go.undef=v:=by
 simp only [Act.put,Array.getD_eq_getD_getElem?]
 simp [h]
theorem Sem.sort (hB:B.s = ⟨[],[]⟩) {a k b t:Nat} {l:List aC} {is:List AI} {Q:Exit→Tm→St→Prop} {tm:Tm} {s:St} (hak:a≠k) (hbk:b≠k) (WM:a≠b)
 (hk:tm.get k = .slice (.tok t) 1 (l.map encStr)) (ht:s.aA[t]? = some (some l.length)) (hl:l.length<4611686018427387904)
 (h:iG Tryz.prog is (Q .normal) [(k, .slice (.tok 0) 1 ((lE l).map encStr))] ⟨[],[some l.length]⟩) :
 Sem Tryz.prog B nt (.run (.op (some a) none (.mv (.s k)):: .call (some b) none iW [.s a]::is)) Q tm s:=by
 refine Sem.ab0 fun act w hh=> ?_
 have yV:(tm.put (some a) (tm.get k)).get k = .slice (.tok t) 1 (l.map encStr):=by rw [Tm.kL,if_neg (by simpa using hak)];exact hk
 have I3:(tm.put (some a) (tm.get k)).get a = .slice (.tok t) 1 (l.map encStr):=by rw [Tm.kL,if_pos rfl];exact hk
 have DG:(lE l).length=l.length:=List.length_mergeSort l
 have hn:(act.put (some b) (.tuple #[])).tmps.size=nt:=by obtain⟨_,_,_,_,h1,_⟩:=hh;simpa [Act.put]using h1
 have hd:(act.put (some b) (.tuple #[])).defers = []:=by obtain⟨_,_,_,_,_,h1⟩:=hh;simpa [Act.put]using h1
 have dK:(act.tmps).size=nt:=by obtain⟨_,_,_,_,h1,_⟩:=hh;exact h1
 rcases FU hB hh ht I3 with ⟨rfl,hv⟩ | ⟨b',cap,vs,T,hv,sR,ek,sy,si,lx⟩
 ·rw [show lE [] = [] by simp [lE]]at h
  have call : ∀ p,act.tmps.getD a Go.undef = .slice p 0 0→Calls Tryz.prog iW #[act.tmps.getD a Go.undef] w fun e w'=>∃ v,e = .returned v∧∃ bt s',Holds B nt bt s' (act.put (some b) v) w'∧iG Tryz.prog is (Q .normal) bt s':=by
   intro p hp
   rw [hp]
   refine(Tryz.slices_Sort_string_none p 0 w).mono ?_
   rintro e w' ⟨rfl,rfl⟩
   refine⟨_,rfl,_,_,K1 hB hh (k:=k) ?_ hn hd,h⟩
   rw [I2 (Ne.symm hbk)]
   exact hv k yV
  rcases hv a I3 with h1 | ⟨b',q,h1⟩
  ·exact call _ h1
  ·exact call _ h1
 ·rw [hv a I3]
  have hF:b'<w.heap.size:=(Array.getElem?_eq_some_iff.1 ek).1
  refine(Tryz.slices_Sort_string b' 0 cap l w (fun j hj=> ?_) hF hl).mono ?_
  ·have QR:j<l.length:=by simpa using hj
   refine⟨?_,by simp [World.frozen?,ek]⟩
   rw [Nat.zero_add,iJ ek,lx j QR]
   simp [QR]
  ·rintro e w' ⟨rfl,n,os,rfl⟩
   obtain⟨p1,p2,p3,p4,p5⟩:=FV (n:=n) ek sy (lE l) (by omega) os
   have hH:=I0 hB hh (tc:=act.put (some b) (.tuple #[])) (l:=lE l) (k:=k) p4 si (fun q hq=>p1 q (by omega) (by obtain⟨M,e,_⟩:=hh;exact Nat.lt_of_lt_of_le hq e.size)) p2 p3 rfl rfl rfl (by omega) p5 (by rw [I2 (Ne.symm hbk),hv k yV,DG]) hn hd
   rw [DG]at hH
   exact⟨_,rfl,_,_,hH,h⟩
theorem Kl (l:List aC):(Lib.compact l).length≤l.length:=by
 unfold Lib.compact Lib.compactUpTo
 rw [List.length_map]
 exact Nat.le_trans (List.length_filter_le _ _) (by simp)
theorem Sem.compact (hB:B.s = ⟨[],[]⟩) {a k b t:Nat} {l:List aC} {is:List AI} {Q:Exit→Tm→St→Prop} {tm:Tm} {s:St} (hbt:b<nt)
 (hk:tm.get k = .slice (.tok t) 1 (l.map encStr)) (ht:s.aA[t]? = some (some l.length)) (hl:l.length<4611686018427387904)
 (h:iG Tryz.prog is (Q .normal) [(b, .slice (.tok 0) 1 ((Lib.compact l).map encStr))] ⟨[],[some (Lib.compact l).length]⟩) :
 Sem Tryz.prog B nt (.run (.op (some a) none (.mv (.s k)):: .call (some b) none jm [.s a]::is)) Q tm s:=by
 refine Sem.ab0 fun act w hh=> ?_
 have I3:(tm.put (some a) (tm.get k)).get a = .slice (.tok t) 1 (l.map encStr):=by rw [Tm.kL,if_pos rfl];exact hk
 have dK:(act.tmps).size=nt:=by obtain⟨_,_,_,_,h1,_⟩:=hh;exact h1
 have hn : ∀ v,(act.put (some b) v).tmps.size=nt:=fun v=>by simpa [Act.put]using dK
 have hd : ∀ v,(act.put (some b) v).defers = []:=by obtain⟨_,_,_,_,_,h1⟩:=hh;intro v;simpa [Act.put]using h1
 rcases FU hB hh ht I3 with ⟨rfl,hv⟩ | ⟨b',cap,vs,T,hv,sR,ek,sy,si,lx⟩
 ·rw [show Lib.compact ([] : List aC) = []from rfl]at h
  have call : ∀ p,act.tmps.getD a Go.undef = .slice p 0 0→(p=none∨∃ b q,p=some ⟨b,q,none⟩)→Calls Tryz.prog jm #[act.tmps.getD a Go.undef] w fun e w'=>∃ v,e = .returned v∧∃ bt s',Holds B nt bt s' (act.put (some b) v) w'∧iG Tryz.prog is (Q .normal) bt s':=by
   intro p hp hq
   rw [hp]
   refine(Tryz.slices_Compact_string_empty p 0 w).mono ?_
   rintro e w' ⟨rfl,rfl⟩
   refine⟨_,rfl,_,_,K1 hB hh (k:=b) ?_ (hn _) (hd _),h⟩
   rw [FW (by omega)]
   rcases hq with rfl | ⟨x,y,rfl⟩
   ·exact .inl rfl
   ·exact .inr ⟨x,y,rfl⟩
  rcases hv a I3 with h1 | ⟨b',q,h1⟩
  ·exact call _ h1 (.inl rfl)
  ·exact call _ h1 (.inr ⟨b',q,rfl⟩)
 ·rw [hv a I3]
  have tn:(Lib.compact l).length≤l.length:=Kl l
  refine(Tryz.slices_Compact_string b' 0 cap l w (fun j hj=> ?_) (by omega) sR).mono ?_
  ·have QR:j<l.length:=by simpa using hj
   refine⟨?_,by simp [World.frozen?,ek]⟩
   rw [Nat.zero_add,iJ ek,lx j QR]
   simp [QR]
  ·rintro e w' ⟨rfl,q,rfl⟩
   obtain⟨p1,p2,p3,p4,p5⟩:=FV (n:=q) ek sy (Lib.compact l++List.replicate (l.length - (Lib.compact l).length) []) (by simp;omega) #[]
   rw [Sort.grow_empty]at p1 p2 p3
   have hH:=I0 hB hh (tc:=act.put (some b) (.slice (some ⟨b',0,none⟩) (Lib.compact l).length cap)) (l:=Lib.compact l) (k:=b) p4 si (fun q hq=>p1 q (by omega) (by obtain⟨M,e,_⟩:=hh;exact Nat.lt_of_lt_of_le hq e.size)) p2 p3 rfl rfl rfl (by omega)
    (fun j hj=>by
     have:=p5 j (by simp;omega)
     rw [List.getElem_append_left hj]at this
     exact this) (FW (by omega)) (hn _) (hd _)
   exact⟨_,rfl,_,_,hH,h⟩
end
end Go.Abs

/-! SrtP -/

namespace Go.Abs
theorem DH {a b:UInt8} : a<b↔a.toNat<b.toNat:=UInt8.lt_iff_toNat_lt
theorem xM : ∀ a:aC,bytesLess a a=false
 | []=>rfl
 | x::a=>by
  show Go.Op.bytesLess (x::a) (x::a)=false
  have h:=xM a
  have h:Go.Op.bytesLess a a=false:=h
  simp [Go.Op.bytesLess,h]
theorem xN : ∀ a b:aC,bytesLess a b=true∨a=b∨bytesLess b a=true
 | [],[]=> .inr (.inl rfl)
 | [],y::b=> .inl rfl
 | x::a,[]=> .inr (.inr rfl)
 | x::a,y::b=>by
  show Go.Op.bytesLess (x::a) (y::b)=true∨_∨Go.Op.bytesLess (y::b) (x::a)=true
  have h:Go.Op.bytesLess a b=true∨a=b∨Go.Op.bytesLess b a=true:=xN a b
  simp only [Go.Op.bytesLess,Bool.or_eq_true,Bool.and_eq_true,decide_eq_true_eq,beq_iff_eq,List.cons.injEq]
  by_cases e:x=y
  ·subst e
   rcases h with h | h | h
   ·exact .inl (.inr ⟨rfl,h⟩)
   ·exact .inr (.inl ⟨rfl,h⟩)
   ·exact .inr (.inr (.inr ⟨rfl,h⟩))
  ·have:x.toNat≠y.toNat:=fun h=>e (UInt8.toNat_inj.1 h)
   rcases Nat.lt_or_gt_of_ne this with h | h
   ·exact .inl (.inl (DH.2 h))
   ·exact .inr (.inr (.inl (DH.2 h)))
theorem DI : ∀ a b c:aC,bytesLess a b=true→bytesLess b c=true→bytesLess a c=true
 | a,b,[],h1,h2=>by cases b <;> cases h2
 | a,[],z::c,h1,h2=>by cases a <;> cases h1
 | [],y::b,z::c,h1,h2=>rfl
 | x::a,y::b,z::c,h1,h2=>by
  have h1:Go.Op.bytesLess (x::a) (y::b)=true:=h1
  have h2:Go.Op.bytesLess (y::b) (z::c)=true:=h2
  show Go.Op.bytesLess (x::a) (z::c)=true
  simp only [Go.Op.bytesLess,Bool.or_eq_true,Bool.and_eq_true,decide_eq_true_eq,beq_iff_eq]at h1 h2 ⊢
  rcases h1 with e1 | ⟨i1,e1⟩
  ·rcases h2 with e2 | ⟨i2,e2⟩
   ·exact .inl (DH.2 (Nat.lt_trans (DH.1 e1) (DH.1 e2)))
   ·exact .inl (i2 ▸ e1)
  ·rcases h2 with e2 | ⟨i2,e2⟩
   ·exact .inl (i1 ▸ e2)
   ·exact .inr ⟨i1.trans i2,DI a b c e1 e2⟩
def Ay (l:List aC):Prop:=l.Pairwise fun a b=>bytesLess a b=true
theorem wN : ∀ {a b:List aC},Ay a→Ay b→(∀ x,x∈a↔x∈b)→a=b
 | [],[],_,_,_=>rfl
 | [],y::b,_,_,h=>absurd ((h y).2 List.mem_cons_self) (by simp)
 | x::a,[],_,_,h=>absurd ((h x).1 List.mem_cons_self) (by simp)
 | x::a,y::b,h1,h2,h=>by
  obtain⟨g1,g2⟩:=List.pairwise_cons.1 h1
  obtain⟨g3,g4⟩:=List.pairwise_cons.1 h2
  have e:x=y:=by
   rcases List.mem_cons.1 ((h x).1 List.mem_cons_self)with e | m
   ·exact e
   ·rcases List.mem_cons.1 ((h y).2 List.mem_cons_self)with e | m'
    ·exact e.symm
    ·have:=DI _ _ _ (g3 x m) (g1 y m');rw [xM]at this;cases this
  subst e
  rw [wN g2 g4 fun z=> ?_]
  constructor
  ·intro m
   rcases List.mem_cons.1 ((h z).1 (List.mem_cons_of_mem _ m))with e | m'
   ·subst e;have:=g1 z m;rw [xM]at this;cases this
   ·exact m'
  ·intro m
   rcases List.mem_cons.1 ((h z).2 (List.mem_cons_of_mem _ m))with e | m'
   ·subst e;have:=g3 z m;rw [xM]at this;cases this
   ·exact m'
theorem tW (out:List aC) : ∀ (l:List aC) (c:aC) (a:Bool),
 let q:=mI out l c a
 (q.2=false↔a=false∧∀ x∈l,x∈out)∧(q.2=true→((a=true∧q.1=c)∨(q.1∈l∧q.1∉out))∧(a=true→bytesLess c q.1=false)∧∀ x∈l,x∉out→bytesLess x q.1=false)
 | [],c,a=>by
  simp only [mI]
  refine⟨by simp,fun h=>⟨.inl ⟨h,by trivial⟩,fun _=>xM c,fun x m=>(by cases m)⟩⟩
 | s::l,c,a=>by
  simp only [mI]
  by_cases h1:er out s=true
  ·have m:=(fW _ _).1 h1
   simp only [h1,Bool.not_true,Bool.false_and,Bool.false_eq_true,if_false]
   obtain⟨k1,k2⟩:=tW out l c a
   refine⟨k1.trans ⟨fun h=>⟨h.1,fun x hx=> ?_⟩,fun h=>⟨h.1,fun x hx=>h.2 x (List.mem_cons_of_mem _ hx)⟩⟩,fun h=> ?_⟩
   ·rcases List.mem_cons.1 hx with rfl | hx
    ·exact m
    ·exact h.2 x hx
   ·obtain⟨g1,g2,g3⟩:=k2 h
    refine⟨g1.imp_right fun h=>⟨List.mem_cons_of_mem _ h.1,h.2⟩,g2,fun x hx hn=> ?_⟩
    rcases List.mem_cons.1 hx with rfl | hx
    ·exact absurd m hn
    ·exact g3 x hx hn
  ·have m:s∉out:=fun m=>h1 ((fW _ _).2 m)
   have rk:er out s=false:=by simpa using h1
   by_cases h2:(!a || bytesLess s c)=true
   ·simp only [rk,h2,Bool.not_false,Bool.and_self,if_true]
    obtain⟨k1,k2⟩:=tW out l s true
    refine⟨⟨fun h=>absurd (k1.1 h).1 (by simp),fun h=>absurd (h.2 s List.mem_cons_self) m⟩,fun h=> ?_⟩
    obtain⟨g1,g2,g3⟩:=k2 h
    have g4:=g2 rfl
    refine⟨.inr ?_,fun ha=> ?_,fun x hx hn=> ?_⟩
    ·rcases g1 with ⟨_,e⟩ | g1
     ·rw [e];exact⟨List.mem_cons_self,m⟩
     ·exact⟨List.mem_cons_of_mem _ g1.1,g1.2⟩
    ·have h3:bytesLess s c=true:=by simpa [ha]using h2
     cases hh:bytesLess c (mI out l s true).1
     ·rfl
     ·have:=DI _ _ _ h3 hh;rw [g4]at this;cases this
    ·rcases List.mem_cons.1 hx with rfl | hx
     ·exact g4
     ·exact g3 x hx hn
   ·have xg:(!a || bytesLess s c)=false:=by simpa using h2
    have ha:a=true:=by cases a <;> simp_all
    have h3:bytesLess s c=false:=by cases a <;> simp_all
    simp only [rk,xg,Bool.not_false,Bool.and_false,Bool.false_eq_true,if_false]
    obtain⟨k1,k2⟩:=tW out l c a
    refine⟨⟨fun h=>absurd (k1.1 h).1 (by simp [ha]),fun h=>absurd h.1 (by simp [ha])⟩,fun h=> ?_⟩
    obtain⟨g1,g2,g3⟩:=k2 h
    refine⟨g1.imp_right fun h=>⟨List.mem_cons_of_mem _ h.1,h.2⟩,g2,fun x hx hn=> ?_⟩
    rcases List.mem_cons.1 hx with rfl | hx
    ·cases hh:bytesLess x (mI out l c a).1
     ·rfl
     ·have g4:=g2 ha
      rcases xN x c with e | e | e
      ·rw [h3]at e;cases e
      ·subst e;rw [g4]at hh;cases hh
      ·have:=DI _ _ _ e hh;rw [g4]at this;cases this
    ·exact g3 x hx hn
theorem wO (l:List aC) : ∀ (n:Nat) (out:List aC),Ay out→(∀ x∈out,x∈l)→(∀ x∈out,∀ y∈l,y∉out→bytesLess x y=true)→
 Ay (oV l n out)∧(∀ x∈oV l n out,x∈l)∧(∀ x∈out,x∈oV l n out)∧((∀ x∈l,x∈oV l n out)∨(oV l n out).length=out.length+n)
 | 0,out,h1,h2,h3=>⟨h1,h2,fun x m=>m, .inr rfl⟩
 | n+1,out,h1,h2,h3=>by
  simp only [oV,QP]
  obtain⟨k1,k2⟩:=tW out l [] false
  cases hq:(mI out l [] false).2
  ·simp only [Bool.false_eq_true,if_false]
   obtain⟨g1,g2,g3,g4⟩:=wO l n out h1 h2 h3
   exact⟨g1,g2,g3, .inl fun x m=>g3 x ((k1.1 hq).2 x m)⟩
  ·simp only [if_true]
   obtain⟨g1,_,g3⟩:=k2 hq
   have g1:(mI out l [] false).1∈l∧(mI out l [] false).1∉out:=by
    rcases g1 with ⟨h,_⟩ | g1
    ·cases h
    ·exact g1
   generalize (mI out l [] false).1=c at g1 g3
   obtain⟨r1,r2,r3,r4⟩:=wO l n (out++ [c])
    (by
     refine List.pairwise_append.2 ⟨h1,by simp,fun x hx y hy=> ?_⟩
     have:y=c:=by simpa using hy
     subst this
     exact h3 x hx y g1.1 g1.2)
    (fun x hx=>by
     rcases List.mem_append.1 hx with hx | hx
     ·exact h2 x hx
     ·have:x=c:=by simpa using hx
      subst this;exact g1.1)
    (fun x hx y hy hn=>by
     have hyo:y∉out:=fun m=>hn (List.mem_append_left _ m)
     have hyc:y≠c:=fun e=>hn (List.mem_append_right _ (by simp [e]))
     rcases List.mem_append.1 hx with hx | hx
     ·exact h3 x hx y hy hyo
     ·have:x=c:=by simpa using hx
      subst this
      rcases xN x y with h | h | h
      ·exact h
      ·exact absurd h.symm hyc
      ·rw [g3 y hy hyo]at h;cases h)
   refine⟨r1,r2,fun x m=>r3 x (List.mem_append_left _ m),r4.imp_right fun h=> ?_⟩
   rw [h];simp;omega
theorem vS : ∀ (a l:List aC),a.Nodup→(∀ x∈a,x∈l)→a.length≤l.length
 | [],l,_,_=>Nat.zero_le _
 | x::a,l,h,hm=>by
  obtain⟨h1,h2⟩:=List.nodup_cons.1 h
  have m:=hm x List.mem_cons_self
  have:=vS a (l.erase x) h2 fun y hy=>(List.mem_erase_of_ne (fun e=>h1 (by rw [← e];exact hy))).2 (hm y (List.mem_cons_of_mem _ hy))
  rw [List.length_erase_of_mem m]at this
  have:0<l.length:=List.length_pos_of_mem m
  simp only [List.length_cons];omega
theorem tX {l:List aC} (h:Ay l):l.Nodup:=h.imp fun {a b} h e=>by subst e;rw [xM]at h;cases h
theorem jO (l:List aC):Ay (jE l)∧∀ x,x∈jE l↔x∈l:=by
 obtain⟨h1,h2,h3,h4⟩:=wO l l.length [] List.Pairwise.nil (fun x m=>(by cases m)) (fun x m=>(by cases m))
 refine⟨h1,fun x=>⟨h2 x,fun m=> ?_⟩⟩
 rcases h4 with h4 | h4
 ·exact h4 x m
 ·refine Classical.byContradiction fun hn=> ?_
  have:=vS (x::oV l l.length []) l (List.nodup_cons.2 ⟨hn,tX h1⟩) fun y hy=>by
   rcases List.mem_cons.1 hy with rfl | hy
   ·exact m
   ·exact h2 y hy
  simp only [List.length_cons,h4,List.length_nil]at this
  omega
theorem Kn (zs:List aC) (hs:zs.Pairwise fun a b=>bytesLess b a=false) : ∀ m,m≤zs.length→
 Ay (Lib.compactUpTo zs.toArray m)∧(∀ x,x∈Lib.compactUpTo zs.toArray m↔x∈zs.take m):=by
 intro m
 induction m with
 | zero=>intro _;exact⟨by simp [Lib.compactUpTo,Ay],fun x=>by simp [Lib.compactUpTo]⟩
 | succ m ih=>
  intro hm
  obtain⟨h1,h2⟩:=ih (by omega)
  have hz:zs[m]? = some zs[m]:=List.getElem?_eq_getElem (by omega)
  have e1:zs.toArray[m]! = zs[m]:=by simp [hm,Nat.lt_of_succ_le hm]
  have et:zs.take (m+1)=zs.take m++ [zs[m]]:=by rw [List.take_add_one,hz];rfl
  rw [Lib.compactUpTo_succ,e1,et]
  by_cases hk:Lib.keeps zs.toArray m=true
  ·rw [if_pos hk]
   refine⟨List.pairwise_append.2 ⟨h1,by simp,fun x hx y hy=> ?_⟩,fun x=>by rw [List.mem_append,List.mem_append,h2]⟩
   have hy:y=zs[m]:=by simpa using hy
   subst hy
   have hx:=(h2 x).1 hx
   simp only [Lib.keeps,decide_eq_true_eq]at hk
   rcases hk with rfl | hk
   ·simp at hx
   ·have IP:m - 1<zs.length:=by omega
    have e2:zs.toArray[m - 1]! = zs[m - 1]:=by simp [IP]
    rw [e1,e2]at hk
    have h0:0<m:=by
     cases m with
     | zero=>simp at hx
     | succ m=>omega
    have hle : ∀ i j (hi:i<zs.length) (hj:j<zs.length),i<j→bytesLess zs[j] zs[i] = false:=fun i j hi hj Vc=>List.pairwise_iff_getElem.1 hs i j hi hj Vc
    have g1:bytesLess zs[m] zs[m - 1] = false:=hle (m - 1) m IP (by omega) (by omega)
    have g2:bytesLess zs[m - 1] zs[m] = true:=by
     rcases xN zs[m - 1] zs[m]with h | h | h
     ·exact h
     ·exact absurd h.symm hk
     ·rw [g1]at h;cases h
    obtain⟨i,hi,rfl⟩:=List.mem_iff_getElem.1 hx
    rw [List.length_take]at hi
    rw [List.getElem_take]
    by_cases BD:i=m - 1
    ·subst BD;exact g2
    ·have g3:=hle i (m - 1) (by omega) IP (by omega)
     rcases xN zs[i] zs[m - 1]with h | h | h
     ·exact DI _ _ _ h g2
     ·rw [h];exact g2
     ·rw [g3]at h;cases h
  ·rw [if_neg hk]
   simp only [List.append_nil]
   refine⟨h1,fun x=> ?_⟩
   rw [h2]
   simp only [Lib.keeps,decide_eq_true_eq,not_or,ne_eq,Decidable.not_not]at hk
   obtain⟨k1,k2⟩:=hk
   have IP:m - 1<zs.length:=by omega
   have e2:zs.toArray[m - 1]! = zs[m - 1]:=by simp [IP]
   rw [e1,e2]at k2
   simp only [List.mem_append,List.mem_singleton]
   constructor
   ·exact .inl
   ·rintro(h | rfl)
    ·exact h
    ·rw [k2]
     exact List.mem_iff_getElem.2 ⟨m - 1,by rw [List.length_take];omega,by rw [List.getElem_take]⟩
theorem FX (l:List aC):(lE l).Pairwise fun a b=>bytesLess b a=false:=by
 have h:=List.pairwise_mergeSort (le:=fun x y:aC=>decide (x≤y)) (fun a b c h1 h2=> ?_) (fun a b=> ?_) l
 ·refine h.imp fun {a b} h=> ?_
  rw [decide_eq_true_eq]at h
  show Go.Op.bytesLess b a=false
  rw [Go.Proofs.bytesLess_eq]
  simpa using h
 ·rw [decide_eq_true_eq]at h1 h2 ⊢
  exact List.le_trans h1 h2
 ·have:=List.le_total a b
  simpa using this
theorem Az (l:List aC):Lib.compact (lE l)=jE l:=by
 obtain⟨h1,h2⟩:=Kn (lE l) (FX l) (lE l).length (Nat.le_refl _)
 obtain⟨h3,h4⟩:=jO l
 refine wN h1 h3 fun x=> ?_
 rw [h4]
 refine(h2 x).trans ?_
 rw [List.take_length]
 exact(List.mergeSort_perm _ _).mem_iff
end Go.Abs

/-! Tc1 -/

namespace Go.Abs
set_option maxRecDepth 8000
open Go.Proofs
def lj:List Sm→List aC
 | []=> []
 | v::l=>if v.kind==4 then v.proc::lj l else lj l
theorem BR : ∀ l:List Sm,(lj l).length≤l.length
 | []=>Nat.le_refl _
 | v::l=>by
  simp only [lj]
  have:=BR l
  split <;> simp <;> omega
def Pc.calls (f:Pc):List aC:=jE (lj (Sm.cW f.body))
theorem AA {name:aC} : ∀ {l:List Pc} {k:Nat} {f:Pc},jc name l=some f→∃ j,l[j]? = some f∧lU (fun f:Pc=>f.name==name) (k:Int) l=((k+j:Nat):Int)
 | g::l,k,f,h=>by
  simp only [jc]at h
  cases e:(g.name==name)
  ·rw [e]at h
   simp only [Bool.false_eq_true,if_false]at h
   obtain⟨j,h1,h2⟩:=AA (k:=k+1) h
   refine⟨j+1,by simpa using h1, ?_⟩
   simp only [lU,e,Bool.false_eq_true,if_false]
   rw [show((k:Int)+1)=((k+1:Nat):Int)from rfl,h2]
   congr 1;omega
  ·rw [e]at h
   simp only [if_true,Option.some.injEq]at h
   exact⟨0,by simpa using h,by simp [lU,e]⟩
theorem Yk {p:Pg} (h:p.ki) {name:aC} {f:Pc} (hf:p.find name=some f) (s:St):aB Tryz.prog s6 [.dE (iu p) 0, .str name] s (.slice .shared 1 (f.calls.map encStr)) s:=by
 refine aB.pure ?_ (by simp [D.bp,D.ok,yy]) (by simp only [D.ok,Tag.ok,eC];rfl) s
 obtain⟨uq,tA,zi⟩:=h.procs
 obtain⟨j,hj,tq⟩:=AA (k:=0) hf
 have tq:p.at name=((j:Nat):Int):=by unfold Pg.at;simpa using tq
 have BP:=fun s=>QD (p:=p) (by omega) name s
 rw [tq]at BP
 obtain⟨it,xG,DC⟩:=T5 hj (by omega)
 have abV:it.length≤900000:=by
  have e:=congrArg List.length xG
  obtain⟨a,b,e',_,_,e3,e4⟩:=(qi p).2 j f hj
  have e5:=qj p
  have e6:=congrArg List.length e3
  rw [e4]at e5
  simp only [List.length_map,List.length_append]at e e5 e6
  omega
 unfold S0
 obtain⟨fn,zk,BQ⟩:=Dg
 refine aB.intro ⟨fn,zk,BQ⟩ (Nat.le_of_ble_eq_true rfl) fun B hB=> ?_
 generalize hQ:iI (⟨[],[]⟩:St).aw.length (⟨[],[]⟩:St).aA.length _ _ (⟨[],[]⟩:St)=Q
 have⟨hF,hP,hZ,gA⟩:=bH
 refine Sem.km ?_
 repeat' (first
 | simp only [go_sem,hF,hP,hZ,gA]
 | (with_reducible refine aG hQ ?_;simp only [ay,az,Option.some.injEq,exists_eq_left',go_sem,hF,hP,hZ,gA];repeat' (first | exact Ok.out | with_reducible refine aI ?_ ?_ | (simp;done))))
 refine Sem.km ?_
 repeat' (first
 | simp only [go_sem,hF,hP,hZ,gA]
 | (with_reducible refine aG hQ ?_;simp only [ay,az,Option.some.injEq,exists_eq_left',go_sem,hF,hP,hZ,gA];repeat' (first | exact Ok.out | with_reducible refine aI ?_ ?_ | (simp;done))))
 refine Sem.km ?_
 repeat' (first
 | simp only [go_sem,hF,hP,hZ,gA]
 | (with_reducible refine CU (BP _) ?_)
 | (with_reducible refine CU (DC _) ?_)
 | (with_reducible refine aG hQ ?_;simp only [ay,az,Option.some.injEq,exists_eq_left',go_sem,hF,hP,hZ,gA];repeat' (first | exact Ok.out | with_reducible refine aI ?_ ?_ | (simp;done))))
 refine bk.ov 5 1 rfl ?_
 simp only [go_sem,hF,hP,hZ,gA]
 obtain⟨R,hR⟩ : ∃ R,R=lj (Sm.cW f.body):=⟨_,rfl⟩
 have hRl:R.length≤900000:=by rw [hR, ← xG];have:=BR (it.map Im.s);rw [List.length_map]at this;omega
 refine cU 0 1 (bk.ind (ι:=List Im×Nat×List aC×Nat) (fun i=>it.drop i.2.1=i.1∧i.2.2.1++lj (i.1.map Im.s)=R∧i.2.2.2=i.2.2.1.length) (fun i=>i.1.length)
  (fun i=> [(5, .slice (.tok 0) 1 (i.2.2.1.map encStr)),(12, .slice .shared 17 (it.map ff)),(13, .int .i64 (it.length:Int)),(14, .int .i64 (i.2.1:Int))]) (fun i=>⟨[],[some i.2.2.2]⟩) ?_ (it,0,[],0) ⟨rfl,by rw [hR,xG];rfl,rfl⟩)
 rintro⟨rest,k,out,n⟩ ⟨h1,h2,h3⟩ IH
 dsimp only at h1 h2 h3
 subst h3
 have kN:out.length≤900000:=by have:=congrArg List.length h2;rw [List.length_append]at this;omega
 cases rest with
 | cons a rest=>
  obtain⟨hP,g2,hF,g4⟩:=drop_cons h1
  have cv:k<4611686018427387904:=by omega
  have hZ:(out.length+1)*17≤bm:=by unfold bm;omega
  simp only [List.map_cons,lj]at h2
  rcases Bool.eq_false_or_eq_true (a.s.kind==4)with c1 | c1
  ·simp only [c1,if_true]at h2
   repeat' (first
 | simp only [go_sem,hF,hP,hZ,gA,c1]
 | (with_reducible refine aG hQ ?_;simp only [ay,az,Option.some.injEq,exists_eq_left',go_sem,hF,hP,hZ,gA];repeat' (first | exact Ok.out | with_reducible refine aI ?_ ?_ | (simp;done))))
   refine dZ 0 1 ?_ ?_ (IH (rest,k+1,out++ [a.s.proc],out.length+1) ⟨g2,by rw [← h2];simp,by simp⟩ (Nat.lt_succ_self _))
   ·(simp only [go_sem,hF,hP,hZ,gA,aM cv,List.map_append,List.map_cons,List.map_nil,encStr];try exact bO)
   ·(simp only [go_sem,hF,hP,hZ,gA,aM cv,List.map_append,List.map_cons,List.map_nil,encStr];try exact bO)
  ·simp only [c1,Bool.false_eq_true,if_false]at h2
   repeat' (first
 | simp only [go_sem,hF,hP,hZ,gA,c1]
 | (with_reducible refine aG hQ ?_;simp only [ay,az,Option.some.injEq,exists_eq_left',go_sem,hF,hP,hZ,gA];repeat' (first | exact Ok.out | with_reducible refine aI ?_ ?_ | (simp;done))))
   refine dZ 0 1 ?_ ?_ (IH (rest,k+1,out,_) ⟨g2,h2,rfl⟩ (Nat.lt_succ_self _))
   ·(simp only [go_sem,hF,hP,hZ,gA,aM cv];try exact bO)
   ·(simp only [go_sem,hF,hP,hZ,gA,aM cv];try exact bO)
 | nil=>
  have hF:=drop_nil h1
  simp only [List.map_nil,lj,List.append_nil]at h2
  subst h2
  have DG:(lE out).length=out.length:=List.length_mergeSort out
  repeat' (first
 | simp only [go_sem,hF,hP,hZ,gA]
 | (with_reducible refine aG hQ ?_;simp only [ay,az,Option.some.injEq,exists_eq_left',go_sem,hF,hP,hZ,gA];repeat' (first | exact Ok.out | with_reducible refine aI ?_ ?_ | (simp;done))))
  refine Sem.seq (Sem.sort (k:=5) (t:=0) (l:=out) hB (by decide) (by decide) (by decide) rfl rfl (by omega) ?_)
  show Sem _ _ _ _ _ _ _
  refine Sem.seq (Sem.compact (k:=5) (t:=0) (l:=lE out) hB (by decide) rfl (by rw [DG];rfl) (by rw [DG];omega) ?_)
  rw [Az]
  have aow:f.calls=jE out:=by unfold Pc.calls;rw [hR]
  rw [aow]at hQ
  refine im (ac:= .ret) (Q:=Q) (tm:= [(32, .slice (.tok 0) 1 ((jE out).map encStr)),(4, .slice (.tok 0) 1 ((jE out).map encStr))]) (s:=⟨[],[some (jE out).length]⟩) ?_
  repeat' (first
 | simp only [go_sem,hF,hP,hZ,gA]
 | (with_reducible refine aG hQ ?_;simp only [ay,az,Option.some.injEq,exists_eq_left',go_sem,hF,hP,hZ,gA];repeat' (first | exact Ok.out | with_reducible refine aI ?_ ?_ | (simp;done))))
end Go.Abs

/-! Tc2 -/

namespace Go.Abs
set_option maxRecDepth 8000
open Go.Proofs
theorem FY {name:aC} : ∀ {l:List Pc},name∈l.map (·.name)→∃ f,jc name l=some f
 | f::l,h=>by
  simp only [jc]
  cases e:(f.name==name)
  ·simp only [Bool.false_eq_true,if_false]
   refine FY ?_
   rcases List.mem_cons.1 h with h | h
   ·rw [h]at e;simp at e
   ·exact h
  ·exact⟨f,rfl⟩
theorem FZ {p:Pg} {f:Pc} {procs:List aC} : ∀ {l:List Sm},wM p f procs l=none→∀ v∈l,v.known p f procs=true
 | v::l,h,w,m=>by
  simp only [wM]at h
  split at h
  ·rename_i e
   rcases List.mem_cons.1 m with rfl | m
   ·exact e
   ·exact FZ h w m
  ·cases h
theorem F0 {p:Pg} {procs:List aC} : ∀ {l:List Pc},((qW p procs l).1==0)=true→∀ f∈l,ei (p.globals++f.own)=false∧∀ v∈Sm.cW f.body,v.known p f procs=true
 | g::l,h,f,m=>by
  simp only [qW]at h
  split at h
  ·cases h
  ·rename_i e
   split at h
   ·cases h
   ·rename_i e2
    rcases List.mem_cons.1 m with rfl | m
    ·exact⟨by simpa using e,FZ e2⟩
    ·exact F0 h f m
theorem Co {p:Pg} (h:(p.scope.1==0)=true):ei p.globals=false∧ei p.pn=false∧p.oH=false∧∀ f∈p.procs,ei (p.globals++f.own)=false∧∀ v∈Sm.cW f.body,v.known p f p.pn=true:=by
 unfold Pg.scope at h
 split at h
 ·split at h
  ·cases h
  ·rename_i e
   simp only [Bool.or_eq_true,not_or,Bool.not_eq_true]at e
   exact⟨e.1,e.2.1,e.2.2,F0 h⟩
 ·cases h
theorem wP {x:aC} : ∀ {l:List Sm},x∈lj l↔∃ v∈l,v.kind=4∧v.proc=x
 | []=>by simp [lj]
 | v::l=>by
  simp only [lj]
  cases e:(v.kind==4)
  ·have:v.kind≠4:=by simpa using e
   simp [this,wP (l:=l)]
  ·have:v.kind=4:=by simpa using e
   simp only [if_true,List.mem_cons,wP (l:=l),exists_eq_or_imp,this,true_and]
   constructor
   ·rintro(h | h)
    ·exact .inl h.symm
    ·exact .inr h
   ·rintro(h | h)
    ·exact .inl h.symm
    ·exact .inr h
theorem AB {f:Pc} {x:aC} : x∈f.calls↔∃ v∈Sm.cW f.body,v.kind=4∧v.proc=x:=by
 unfold Pc.calls;rw [(jO _).2,wP]
theorem wQ {p:Pg} (h:(p.scope.1==0)=true) {f:Pc} (hf:f∈p.procs) {x:aC} (m:x∈f.calls) : ∃ g,p.find x=some g:=by
 obtain⟨v,hv,h4,rfl⟩:=AB.1 m
 have hk:=((Co h).2.2.2 f hf).2 v hv
 simp only [Sm.known,h4,Bool.and_eq_true,Bool.or_eq_true]at hk
 rcases hk.2 with h | ⟨_,h⟩
 ·simp at h
 ·exact FY ((fW _ _).1 h)
def nF (p:Pg) (x:aC):List aC:=match p.find x with | some f=>f.calls | none=> []
def rO (out:List aC):List aC→List aC
 | []=>out
 | x::l=>rO (sj out x) l
def l7 (p:Pg):Nat→Nat→List aC→List aC
 | 0,_,out=>out
 | n+1,i,out=>match out[i]? with
  | some x=>l7 p n (i+1) (rO out (nF p x))
  | none=>out
def Pg.work (p:Pg) (name:aC):List aC:=l7 p (p.procs.length+1) 0 [name]
def Good (p:Pg) (out:List aC):Prop:=out.Nodup∧∀ x∈out,∃ f,p.find x=some f
theorem Good.len {p:Pg} {out:List aC} (h:Good p out):out.length≤p.procs.length:=by
 have:=vS out p.pn h.1 fun x m=>by
  obtain⟨f,hf⟩:=h.2 x m
  obtain⟨h1,h2⟩:=p8 hf
  rw [← h2];exact List.mem_map_of_mem h1
 simpa [Pg.pn]using this
theorem Good.spk {p:Pg} {out:List aC} (h:Good p out) {x:aC} (hx : ∃ f,p.find x=some f):Good p (sj out x):=by
 unfold sj
 split
 ·exact h
 ·rename_i e
  have:x∉out:=fun m=>e ((fW _ _).2 m)
  refine⟨List.nodup_append.2 ⟨h.1,by simp,fun a ha b hb e'=> ?_⟩,fun y hy=> ?_⟩
  ·have hbx:b=x:=by simpa using hb
   rw [e',hbx]at ha;exact this ha
  ·rcases List.mem_append.1 hy with hy | hy
   ·exact h.2 y hy
   ·have:y=x:=by simpa using hy
    subst this;exact hx
theorem Good.add {p:Pg} : ∀ {l out:List aC},Good p out→(∀ x∈l,∃ f,p.find x=some f)→Good p (rO out l)
 | [],out,h,_=>h
 | x::l,out,h,hx=>Good.add (l:=l) (out:=sj out x) (Good.spk h (hx x List.mem_cons_self)) fun y m=>hx y (List.mem_cons_of_mem _ m)
end Go.Abs

/-! Tc3 -/

namespace Go.Abs
set_option maxRecDepth 8000
open Go.Proofs
def tgB:Bool→Tag
 | true=> .tok 0
 | false=> .full
def tkB:Bool→Nat→List (Option Nat)
 | true,n=> [some n]
 | false,_=> []
end Go.Abs

/-! Bsl -/

namespace Go.Abs
def yB:AI→AI
 | .op d g (.cL z k n ps)=> .op d g (.ug z k n ps)
 | a=>a
section
variable {P:Program}
theorem Ko {nt:Nat} {ops:Array Oper} {i:Nat} {o:Oper} {ai:AI} (hi:ops[i]? = some o) (hc:cI P nt ops o=some ai)
 {M:Map} {s:St} {w:World} {tm:Tm} {act:Act} (r:Rel M s w) (jR:Laid M s w) (ht:lq M s tm act.tmps) {K':Tm→St→Prop} (h:iG P [yB ai] K' tm s)
 {K:Act→World→Prop} {Q:Exit→Act→World→Prop}
 (hK : ∀ d v s1 w1 M1,K' (tm.put ai.dst d) s1→Ext M s w M1 s1 w1→Rel M1 s1 w1→RD M1 s1 d v→K (act.put o.dst v) w1):wpOp P ops Q i K act w:=by
 by_cases hb : ∃ d g z k n ps,ai = .op d g (.cL z k n ps)
 ·obtain⟨d0,g0,z,k,n,ps,rfl⟩:=hb
  obtain⟨g,hg,_,hb⟩:=zY hc
  rw [sE hb]at hK
  simp only [wpOp,hi]
  have skip:K' (tm.put o.dst (.tuple [])) s→K (act.put o.dst Go.undef) w:=fun hk=>hK _ _ _ _ _ hk (Ext.refl M s w) r .undef
  have hd:=sE hb
  simp only [AI.dst]at hd
  subst hd
  have nz:CA P o=some (.cL z k n ps)∧g0=g:=by
   unfold rT at hb
   split at hb
   ·split at hb
    ·obtain⟨xs,_,h⟩:=map_some hb;cases h
    ·cases hb
   ·obtain⟨xs,_,h⟩:=map_some hb;cases h
   ·split at hb
    ·cases hb
    ·split at hb
     ·rename_i nz
      simp only [Option.some.injEq,AI.op.injEq,true_and]at hb
      obtain⟨h1,h2⟩:=hb
      split at h2
      ·cases h2
      ·cases h2;exact⟨nz,h1.symm⟩
     ·rename_i ao eJ nz
      simp only [Option.some.injEq,AI.op.injEq,true_and]at hb
      obtain⟨h1,h2⟩:=hb
      subst h2
      exact⟨nz,h1.symm⟩
     ·cases hb
  obtain⟨nz,rfl⟩:=nz
  simp only [yB,iG]at h
  rcases jB hg ht h with ⟨hw,hA⟩ | ⟨hw,hB⟩
  ·simp only [hw,if_true]
   left
   split at hA
   ·rename_i d s' qd
    obtain⟨v,w',M',dn,r',hv,e'⟩:=x7 nz r ht qd
    unfold Oper.wp
    rcases dn with dn | ⟨dn,rfl⟩
    ·rw [dn,Oper.upon_value]
     exact hK _ _ _ _ _ hA e' r' hv
    ·rw [dn,Oper.upon_skip]
     exact hK _ _ _ _ _ hA e' r' hv
   ·exact hA.elim
  ·simp only [hw]
   exact skip hB
 ·have hs:yB ai=ai:=by
   unfold yB
   split
   ·rename_i d g z k n ps;exact absurd ⟨d,g,z,k,n,ps,rfl⟩ hb
   ·rfl
  rw [hs]at h
  exact wj hi hc r jR ht h hK
theorem Yl {a:AI} {r:List AI} {K:Tm→St→Prop} {tm:Tm} {s:St} (h:iG P (a::r) K tm s):iG P [a] (iG P r K) tm s:=by
 cases a <;> exact h
theorem F1 {B:fv} {nt:Nat} {ops:Array Oper} {Q:Exit→Tm→St→Prop} : ∀ (l:List Nat) (ol:List Oper) (is:List AI),l.map (ops[·]?)=ol.map some→qo P nt ops ol=some is→
 ∀ (tm:Tm) (s:St) (act:Act) (w:World),iG P (is.map yB) (Q .normal) tm s→Holds B nt tm s act w→wpOps P ops (pb B nt Q) l act w
 | [],[],is,_,hc,tm,s,act,w,h,hh=>by cases hc;exact⟨tm,s,h,hh⟩
 | [],_::_,_,hl,_,_,_,_,_,_,_=>by simp at hl
 | _::_,[],_,hl,_,_,_,_,_,_,_=>by simp at hl
 | i::l,o::ol,is,hl,hc,tm,s,act,w,h,hh=>by
  simp only [List.map_cons,List.cons.injEq]at hl
  obtain⟨hi,hl⟩:=hl
  unfold qo at hc
  split at hc
  ·rename_i ai O2 h1 h2
   cases hc
   obtain⟨M,e,r,ht,hn,hd⟩:=hh
   have pX:=xd h1
   have hdd:=sF h1
   rw [List.map_cons]at h
   have key:=Ko (K:=fun act w=>wpOps P ops (pb B nt Q) l act w) (Q:=pb B nt Q) hi h1 r (B.laid.ext e) ht (Yl h) (fun d v s1 w1 M1 hk e1 r1 hv=>
    F1 (Q:=Q) l ol O2 hl h2 _ _ _ _ hk (hdd ▸ Holds.put e ht hn hd pX e1 r1 hv))
   simpa only [wpOps,wpOp,hi]using key
  ·cases hc
theorem Sem.swap {B:fv} {nt:Nat} {is:List AI} {Q:Exit→Tm→St→Prop} {tm:Tm} {s:St} (h:gC P B nt (.run (is.map yB)) Q tm s):Sem P B nt (.run is) Q tm s:=by
 intro c hc act w hh
 obtain⟨id,ops,rfl,hi⟩:=kP hc
 refine wp_region ?_
 exact F1 _ _ is (zV ops) hi tm s act w (nH h) hh
end
end Go.Abs

/-! Tc4 -/

namespace Go.Abs
set_option maxRecDepth 8000
open Go.Proofs
theorem N5 {l:List aC} (h:l.Nodup):lE l=jE l:=by
 refine wN ?_ (jO l).1 fun x=> ?_
 ·have h1:=FX l
  have h2:(lE l).Nodup:=(List.mergeSort_perm l _).nodup_iff.2 h
  refine(List.pairwise_and_iff.2 ⟨h1,h2⟩).imp fun {a b} WM=> ?_
  rcases xN a b with e | e | e
  ·exact e
  ·exact absurd e WM.2
  ·rw [WM.1]at e;cases e
 ·rw [(jO l).2];exact(List.mergeSort_perm l _).mem_iff
theorem AE {p:Pg} (kT:(p.scope.1==0)=true) : ∀ (n i:Nat) (out:List aC),Good p out→Good p (l7 p n i out)
 | 0,i,out,h=>h
 | n+1,i,out,h=>by
  simp only [l7]
  split
  ·rename_i x hx
   obtain⟨g,hg⟩:=h.2 x (List.mem_of_getElem? hx)
   refine AE kT n _ _ (h.add fun y m=> ?_)
   unfold nF at m
   rw [hg]at m
   exact wQ kT (p8 hg).1 m
  ·exact h
theorem yC {p:Pg} {name:aC} {f:Pc} (hf:p.find name=some f):Good p [name]:=
 ⟨by simp,fun x m=>by
  have:x=name:=by simpa using m
  subst this;exact⟨f,hf⟩⟩
theorem Ym {p:Pg} (h:p.ki) (kT:(p.scope.1==0)=true) {name:aC} {f:Pc} (hf:p.find name=some f) (s:St):aB Tryz.prog wy [.dE (iu p) 0, .str name] s (.slice .shared 1 ((jE (p.work name)).map encStr)) s:=by
 refine aB.pure ?_ (by simp [D.bp,D.ok,yy]) (by simp only [D.ok,Tag.ok,eC];rfl) s
 obtain⟨uq,tA,zi⟩:=h.procs
 obtain⟨R,hR⟩ : ∃ R,p.work name=R:=⟨_,rfl⟩
 have hgR:Good p R:=hR ▸ AE kT _ _ _ (yC hf)
 rw [hR, ← N5 hgR.1]
 unfold Pg.work at hR
 have hg0:Good p [name]:=yC hf
 have hRl:=hgR.len
 unfold S0
 obtain⟨fn,zk,BQ⟩:=GM
 refine aB.intro ⟨fn,zk,BQ⟩ (Nat.le_of_ble_eq_true rfl) fun B hB=> ?_
 generalize hQ:iI (⟨[],[]⟩:St).aw.length (⟨[],[]⟩:St).aA.length _ _ (⟨[],[]⟩:St)=Q
 have⟨hF,hP,hZ,gA⟩:=bH
 refine Sem.km ?_
 repeat' (first
 | simp only [go_sem,hF,hP,hZ,gA]
 | (with_reducible first | refine bw fun hc=> ?_ | refine bx fun hc=> ?_ | refine bA (fun hc=> ?_) fun hc=> ?_) <;> (try simp only [hc,bs, ↓reduceIte]at h) <;> try simp only [hc]
 | (with_reducible refine aG hQ ?_;exact jS)
 | (cases h;done))
 refine Sem.seq (Sem.swap ?_)
 simp only [List.map_cons,List.map_nil,yB]
 repeat' (first
 | simp only [go_sem,hF,hP,hZ,gA]
 | (with_reducible first | refine bw fun hc=> ?_ | refine bx fun hc=> ?_ | refine bA (fun hc=> ?_) fun hc=> ?_) <;> (try simp only [hc,bs, ↓reduceIte]at h) <;> try simp only [hc]
 | (with_reducible refine aG hQ ?_;exact jS)
 | (cases h;done))
 refine Sem.km ?_
 repeat' (first
 | simp only [go_sem,hF,hP,hZ,gA]
 | (with_reducible first | refine bw fun hc=> ?_ | refine bx fun hc=> ?_ | refine bA (fun hc=> ?_) fun hc=> ?_) <;> (try simp only [hc,bs, ↓reduceIte]at h) <;> try simp only [hc]
 | (with_reducible refine aG hQ ?_;exact jS)
 | (cases h;done))
 refine cU 0 1 (bk.ind (ι:=Nat×Nat×List aC×Nat) (fun i=>l7 p i.1 i.2.1 i.2.2.1=R∧Good p i.2.2.1∧i.1+i.2.1=p.procs.length+1∧i.2.2.2=i.2.2.1.length) (fun i=>i.1)
  (fun i=> [(0, .dE (iu p) 0),(5, .slice (.tok 0) 1 (i.2.2.1.map encStr)),(6, .int .i64 (i.2.1:Int))]) (fun i=>⟨[],[some i.2.2.2]⟩) ?_ (p.procs.length+1,0,[name],1) ⟨hR,hg0,rfl,rfl⟩)
 rintro⟨n,i,out,no⟩ ⟨h1,h2,h3,h4⟩ IH
 dsimp only at h1 h2 h3 h4
 subst h4
 have kN:=h2.len
 cases hx:out[i]? with
 | none=>
  have hF:decide ((i:Int)<(out.length:Int))=false:=by have:=List.getElem?_eq_none_iff.1 hx;simp;omega
  have:R=out:=by
   cases n with
   | zero=>simpa [l7]using h1.symm
   | succ n=>simp only [l7,hx]at h1;exact h1.symm
  subst this
  repeat' (first
 | simp only [go_sem,hF,hP,hZ,gA]
 | (with_reducible first | refine bw fun hc=> ?_ | refine bx fun hc=> ?_ | refine bA (fun hc=> ?_) fun hc=> ?_) <;> (try simp only [hc,bs, ↓reduceIte]at h) <;> try simp only [hc]
 | (with_reducible refine aG hQ ?_;exact jS)
 | (cases h;done))
  refine Sem.seq (Sem.sort (k:=5) (t:=0) (l:=R) hB (by decide) (by decide) (by decide) rfl rfl (by omega) ?_)
  refine im (ac:=aa9) (Q:=Q) (tm:= [(5, .slice (.tok 0) 1 ((lE R).map encStr))]) (s:=⟨[],[some R.length]⟩) ?_
  repeat' (first
 | simp only [go_sem,hF,hP,hZ,gA]
 | (with_reducible first | refine bw fun hc=> ?_ | refine bx fun hc=> ?_ | refine bA (fun hc=> ?_) fun hc=> ?_) <;> (try simp only [hc,bs, ↓reduceIte]at h) <;> try simp only [hc]
 | (with_reducible refine aG hQ ?_;exact jS)
 | (cases h;done))
 | some x=>
  have qe:=(List.getElem?_eq_some_iff.1 hx).1
  have hF:decide ((i:Int)<(out.length:Int))=true:=by simp;omega
  have BD:i<4611686018427387904:=by omega
  cases n with
  | zero=>omega
  | succ n=>
  simp only [l7,hx]at h1
  obtain⟨g,DJ⟩:=h2.2 x (List.mem_of_getElem? hx)
  have hgm:=(p8 DJ).1
  have WT:=fun s=>Yk h DJ s
  have hcn:nF p x=g.calls:=by unfold nF;rw [DJ]
  rw [hcn]at h1
  have hth : ∀ y∈g.calls,∃ f,p.find y=some f:=fun y m=>wQ kT hgm m
  have awz:g.calls.length≤p.procs.length:=Good.len ⟨tX (jO _).1,hth⟩
  obtain⟨W,hW⟩ : ∃ W,rO out g.calls=W:=⟨_,rfl⟩
  rw [hW]at h1
  repeat' (first
 | simp only [go_sem,hF,hP,hZ,gA,hx]
 | (with_reducible refine CU (WT _) ?_)
 | (with_reducible first | refine bw fun hc=> ?_ | refine bx fun hc=> ?_ | refine bA (fun hc=> ?_) fun hc=> ?_) <;> (try simp only [hc,bs, ↓reduceIte]at h) <;> try simp only [hc]
 | (with_reducible refine aG hQ ?_;(try cases h);simp only [ay,az,bF,bG,go_sem,hF,hP,hZ,gA,hx];try exact mj)
 | (cases h;done))
  refine cU 0 1 (bk.ind (ι:=List aC×Nat×List aC×Nat) (fun j=>g.calls.drop j.2.1=j.1∧rO j.2.2.1 j.1=W∧Good p j.2.2.1∧j.2.2.2=j.2.2.1.length) (fun j=>j.1.length)
   (fun j=> [(0, .dE (iu p) 0),(5, .slice (.tok 0) 1 (j.2.2.1.map encStr)),(6, .int .i64 (i:Int)),(22, .slice .shared 1 (g.calls.map encStr)),(23, .int .i64 (g.calls.length:Int)),(24, .int .i64 (j.2.1:Int))]) (fun j=>⟨[],[some j.2.2.2]⟩) ?_ (g.calls,0,out,out.length) ⟨rfl,hW,h2,rfl⟩)
  clear hW
  rintro⟨rest,k,cu,n'⟩ ⟨j1,j2,j3,j4⟩ WQ
  dsimp only at j1 j2 j3 j4
  subst j4
  have awA:=j3.len
  cases rest with
  | nil=>
   have ab6:=drop_nil j1
   simp only [rO]at j2
   subst j2
   repeat' (first
 | simp only [go_sem,hF,hP,hZ,gA,ab6]
 | (with_reducible first | refine bw fun hc=> ?_ | refine bx fun hc=> ?_ | refine bA (fun hc=> ?_) fun hc=> ?_) <;> (try simp only [hc,bs, ↓reduceIte]at h) <;> try simp only [hc]
 | (with_reducible refine aG hQ ?_;(try cases h);simp only [ay,az,bF,bG,go_sem,hF,hP,hZ,gA,ab6];try exact mj)
 | (cases h;done))
   refine dZ 0 1 ?_ ?_ (IH (n,i+1,cu,cu.length) ⟨h1,j3,by dsimp only;omega,rfl⟩ (Nat.lt_succ_self _))
   ·(simp only [go_sem,hF,hP,hZ,gA,aM BD];try exact bO)
   ·(simp only [go_sem,hF,hP,hZ,gA,aM BD];try exact bO)
  | cons y rest=>
   obtain⟨oI,KY,xL,jg4⟩:=drop_cons j1
   have sM:k<4611686018427387904:=by omega
   have hZ:(cu.length+1)*17≤bm:=by unfold bm;omega
   have F2:=fun g s=>jb (l:=cu) (by omega) y g s
   have hy:=hth y (List.mem_of_getElem? oI)
   have xj:=j3.spk hy
   simp only [rO]at j2
   rcases Bool.eq_false_or_eq_true (er cu y)with c1 | c1
   ·simp only [sj,c1,if_true]at j2
    repeat' (first
 | simp only [go_sem,hF,hP,hZ,gA,xL,oI,c1]
 | (with_reducible refine CU (F2 _ _) ?_)
 | (with_reducible first | refine bw fun hc=> ?_ | refine bx fun hc=> ?_ | refine bA (fun hc=> ?_) fun hc=> ?_) <;> (try simp only [hc,bs, ↓reduceIte]at h) <;> try simp only [hc]
 | (with_reducible refine aG hQ ?_;(try cases h);simp only [ay,az,bF,bG,go_sem,hF,hP,hZ,gA,xL,oI,c1];try exact mj)
 | (cases h;done))
    refine dZ 0 1 ?_ ?_ (WQ (rest,k+1,cu,cu.length) ⟨KY,j2,j3,rfl⟩ (Nat.lt_succ_self _))
    ·(simp only [go_sem,hF,hP,hZ,gA,aM sM];try exact bO)
    ·(simp only [go_sem,hF,hP,hZ,gA,aM sM];try exact bO)
   ·simp only [sj,c1,Bool.false_eq_true,if_false]at j2 xj
    repeat' (first
 | simp only [go_sem,hF,hP,hZ,gA,xL,oI,c1]
 | (with_reducible refine CU (F2 _ _) ?_)
 | (with_reducible first | refine bw fun hc=> ?_ | refine bx fun hc=> ?_ | refine bA (fun hc=> ?_) fun hc=> ?_) <;> (try simp only [hc,bs, ↓reduceIte]at h) <;> try simp only [hc]
 | (with_reducible refine aG hQ ?_;(try cases h);simp only [ay,az,bF,bG,go_sem,hF,hP,hZ,gA,xL,oI,c1];try exact mj)
 | (cases h;done))
    refine dZ 0 1 ?_ ?_ (WQ (rest,k+1,cu++ [y],cu.length+1) ⟨KY,j2,xj,by simp⟩ (Nat.lt_succ_self _))
    ·(simp only [go_sem,hF,hP,hZ,gA,aM sM,List.map_append,List.map_cons,List.map_nil,encStr];try exact bO)
    ·(simp only [go_sem,hF,hP,hZ,gA,aM sM,List.map_append,List.map_cons,List.map_nil,encStr];try exact bO)
end Go.Abs

/-! Tc5 -/

namespace Go.Abs
set_option maxRecDepth 8000
open Go.Proofs
theorem I4 (name:aC) : ∀ l:List Pc,l.any (fun f=>f.name==name)=(jc name l).isSome
 | []=>rfl
 | f::l=>by
  simp only [List.any_cons,jc]
  cases e:(f.name==name)
  ·simp [I4 name l]
  ·simp
theorem Uk (name:aC) (f:Pc):aB Tryz.prog n3 ([.agg (bq f)]++ [.ptr 0 0]) ⟨[[.str name]],[]⟩ (.bool (f.name==name)) ⟨[[.str name]],[]⟩:=by
 show aB Tryz.prog n3 [.agg (bq f), .ptr 0 0] _ _ _
 refine aB.go Bu rfl fun B Q hB hQ=> ?_
 have⟨hF,hP,hZ,gA⟩:=bH
 repeat' (first
 | simp only [go_sem,hF,hP,hZ,gA]
 | (with_reducible refine aG hQ ?_;simp only [ay,az,Option.some.injEq,exists_eq_left',go_sem,hF,hP,hZ,gA];repeat' (first | exact Ok.out | with_reducible refine aI ?_ ?_ | (simp;done))))
def Pg.rP (p:Pg) (name:aC):Option Pc:=if p.scope.1==0 then p.find name else none
theorem Ul {p:Pg} (h:p.ki) (name:aC) (s:St):aB Tryz.prog s4 [.agg (bC p), .str name] s (.bool (p.rP name).isSome) s:=by
 refine aB.pure ?_ (by simp [D.bp,D.ok,gl]) rfl s
 obtain⟨uq,tA,zi⟩:=h.procs
 have ti:=fun s=>uU h s
 have hi:=fun {s:St} {o:Nat} (ho:s.aw[o]? = some [.str name])=>As (zr (l:=p.procs) (f:=n3) (row:= [.str name]) (b:=fun f:Pc=>f.name==name) (by omega) rfl (by with_unfolding_all rfl) (fun x _=>Uk name x)) rfl (vy _) rfl ho
 have gZ:=fun {s:St} {o:Nat} (ho:s.aw[o]? = some [.str name])=>(show aB Tryz.prog gO [.slice .shared 5 (p.procs.map bq), .gb 164 [.ptr o 0]] s (.bool (p.procs.any fun f:Pc=>f.name==name)) s from hi ho)
 simp only [I4]at gZ
 unfold Pg.rP Pg.find
 unfold S0
 rcases Bool.eq_false_or_eq_true (p.scope.1==0)with b1 | b1
 ·simp only [b1,if_true]
  refine aB.go vG rfl fun B Q hB hQ=> ?_
  have⟨hF,hP,hZ,gA⟩:=bH
  repeat' (first
 | simp only [go_sem,hF,hP,hZ,gA,b1]
 | (with_reducible refine CU (ti _) ?_)
 | (with_reducible refine CU (gZ (by with_unfolding_all rfl)) ?_)
 | (with_reducible refine aG hQ ?_;simp only [ay,az,Option.some.injEq,exists_eq_left',go_sem,hF,hP,hZ,gA];repeat' (first | exact Ok.out | with_reducible refine aI ?_ ?_ | (simp;done))))
 ·simp only [b1,Bool.false_eq_true,if_false,Option.isSome_none]
  refine aB.go vG rfl fun B Q hB hQ=> ?_
  have⟨hF,hP,hZ,gA⟩:=bH
  repeat' (first
 | simp only [go_sem,hF,hP,hZ,gA,b1]
 | (with_reducible refine CU (ti _) ?_)
 | (with_reducible refine CU (gZ (by with_unfolding_all rfl)) ?_)
 | (with_reducible refine aG hQ ?_;simp only [ay,az,Option.some.injEq,exists_eq_left',go_sem,hF,hP,hZ,gA];repeat' (first | exact Ok.out | with_reducible refine aI ?_ ?_ | (simp;done))))
def Pg.ave (p:Pg) (name:aC):List aC:=match p.rP name with | some f=>f.calls | none=> []
def Pg.aox (p:Pg) (name:aC):List aC:=match p.rP name with | some _=>jE (p.work name) | none=> []
theorem AG {p:Pg} {name:aC} {f:Pc} (h:p.rP name=some f):(p.scope.1==0)=true∧p.find name=some f:=by
 unfold Pg.rP at h
 split at h
 ·exact⟨by assumption,h⟩
 ·cases h
end Go.Abs

/-! Tc6 -/

namespace Go.Abs
set_option maxRecDepth 8000
open Go.Proofs
def oW (p:Pg) (out:List aC):List aC→List aC
 | []=>out
 | v::l=>oW p (if er p.globals v then out++ [v]else out) l
def oX (p:Pg) (out:List aC):List Sm→List aC
 | []=>out
 | v::l=>oX p (oW p out v.said) l
def mJ (p:Pg) (n:aC):List Sm:=match p.find n with | some f=>Sm.cW f.body | none=> []
def pP (p:Pg) (out:List aC):List aC→List aC
 | []=>out
 | n::l=>pP p (oX p out (mJ p n)) l
theorem yD (p:Pg) : ∀ (l out:List aC),out.length≤(oW p out l).length∧(oW p out l).length≤out.length+l.length
 | [],out=>⟨Nat.le_refl _,Nat.le_refl _⟩
 | v::l,out=>by
  simp only [oW]
  have h:=yD p l (if er p.globals v then out++ [v]else out)
  have h2:out.length≤(if er p.globals v then out++ [v]else out).length∧(if er p.globals v then out++ [v]else out).length≤out.length+1:=by split <;> simp
  simp only [List.length_cons]
  omega
def n5:List Sm→Nat
 | []=>0
 | v::l=>v.said.length+n5 l
theorem AH : ∀ a b:List Sm,n5 (a++b)=n5 a+n5 b
 | [],b=>by simp [n5]
 | v::a,b=>by simp only [List.cons_append,n5,AH a b];omega
theorem Yn (v:Sm):v.said.length≤1+v.x.size+2*Ar.aX v.args:=by
 have : ∀ (l:List Ar) (out:List aC),(Ar.said out l).length≤out.length+2*Ar.aX l:=by
  intro l
  induction l with
  | nil=>intro out;simp [Ar.said]
  | cons a l ih=>
   intro out
   simp only [Ar.said,Ar.aX]
   refine Nat.le_trans (ih _) ?_
   have:=kD a.x
   have:1≤a.x.size:=by obtain⟨_,_,_,_⟩:=a.x;simp [Ex.size]
   simp only [List.length_append]
   split <;> simp <;> omega
 have h1:=this v.args (v.tV++v.x.names)
 have h2:=kD v.x
 have h4:v.tV.length≤1:=by unfold Sm.tV;split <;> simp
 simp only [List.length_append]at h1
 unfold Sm.said
 omega
mutual
theorem QS : ∀ s:Sm,n5 s.pre≤2*s.size
 | ⟨id,kind,labels,name,proc,x,has,args,aY,aP⟩=>by
  simp only [Sm.pre,n5,AH,Sm.size]
  have h1:=Yn ⟨id,kind,labels,name,proc,x,has,args,aY,aP⟩
  have h2:=tY aY
  have h3:=tY aP
  dsimp only at h1
  omega
theorem tY : ∀ l:List Sm,n5 (Sm.cW l)≤2*Sm.aX l
 | []=>by simp [Sm.cW,n5,Sm.aX]
 | s::l=>by
  simp only [Sm.cW,AH,Sm.aX]
  have:=QS s;have:=tY l;omega
end
theorem yE (p:Pg) : ∀ (l:List Sm) (out:List aC),out.length≤(oX p out l).length∧(oX p out l).length≤out.length+n5 l
 | [],out=>⟨Nat.le_refl _,Nat.le_refl _⟩
 | v::l,out=>by
  simp only [oX,n5]
  have h:=yE p l (oW p out v.said)
  have h2:=yD p v.said out
  omega
theorem yF {p:Pg} (h:p.ki) : ∀ (l out:List aC),out.length≤(pP p out l).length∧(pP p out l).length≤out.length+l.length*1800000
 | [],out=>⟨Nat.le_refl _,by simp [pP]⟩
 | n::l,out=>by
  simp only [pP]
  have h1:=yF h l (oX p out (mJ p n))
  have h2:=yE p (mJ p n) out
  have h3:n5 (mJ p n)≤1800000:=by
   unfold mJ
   split
   ·rename_i f hf
    have:=tY f.body
    have h4:=Pc.bV (p8 hf).1
    have h5:=h.procs.2.1
    simp only [Pc.size]at h4
    omega
   ·simp [n5]
  simp only [List.length_cons]
  omega
theorem QT {p:Pg} (h:p.may=true):p.procs.length≤16:=by
 unfold Pg.may at h
 split at h
 ·cases h
 ·rename_i c
  simp only [Bool.or_eq_true,decide_eq_true_eq,not_or,Int.not_lt,gt_iff_lt]at c
  have:=c.1.2
  omega
def Pg.p9 (p:Pg) (name:aC):List aC:=pP p [] (jE (p.work name))
def Pg.kU (p:Pg) (name:aC):List aC:=match p.rP name with | some _=>jE (p.p9 name) | none=> []
theorem I5 {p:Pg} (kT:(p.scope.1==0)=true) {name:aC} {f:Pc} (hf:p.find name=some f):Good p (jE (p.work name)):=by
 have h:=AE kT (p.procs.length+1) 0 [name] (yC hf)
 refine⟨tX (jO _).1,fun x m=>h.2 x ?_⟩
 exact((jO _).2 x).1 m
theorem QU {p:Pg} (h:p.ki) (name:aC) (s:St):aB Tryz.prog qJ [.agg (bC p), .str name] s (.slice .shared 1 ((p.kU name).map encStr)) s:=by
 refine aB.pure ?_ (by simp [D.bp,D.ok,gl]) (by simp only [D.ok,Tag.ok,eC];rfl) s
 have hk:=fun s=>Ul h name s
 have dF:=fun s=>Dy (p:=p) (by have:=h.procs;omega) s
 unfold Pg.kU
 unfold S0
 cases Um:p.rP name with
 | none=>
  simp only [Um,Option.isSome_none]at hk
  simp only [List.map_nil]
  refine aB.go tz rfl fun B Q hB hQ=> ?_
  have⟨hF,hP,hZ,gA⟩:=bH
  repeat' (first
 | simp only [go_sem,hF,hP,hZ,gA]
 | (with_reducible refine CU (hk _) ?_)
 | (with_reducible refine aG hQ ?_;simp only [ay,az,Option.some.injEq,exists_eq_left',go_sem,hF,hP,hZ,gA];repeat' (first | exact Ok.out | with_reducible refine aI ?_ ?_ | (simp;done))))
 | some f=>
 obtain⟨kT,hf⟩:=AG Um
 simp only [Um,Option.isSome_some]at hk
 dsimp only
 obtain⟨uq,tA,zi⟩:=h.procs
 have hN:=I5 kT hf
 obtain⟨N,hNe⟩ : ∃ N,jE (p.work name)=N:=⟨_,rfl⟩
 rw [hNe]at hN
 have hNl:=hN.len
 obtain⟨R,hR⟩ : ∃ R,p.p9 name=R:=⟨_,rfl⟩
 rw [hR]
 unfold Pg.p9 at hR
 rw [hNe]at hR
 have hRl:R.length≤28800000:=by
  have:=(yF h N []).2
  rw [hR]at this
  have h4:=QT (Aw kT)
  have h3:N.length*1800000≤16*1800000:=Nat.mul_le_mul_right _ (by omega)
  simp only [List.length_nil]at this
  omega
 have WT:=fun s=>Ym h kT hf s
 simp only [hNe]at WT
 obtain⟨fn,zk,BQ⟩:=tz
 refine aB.intro ⟨fn,zk,BQ⟩ (Nat.le_of_ble_eq_true rfl) fun B hB=> ?_
 generalize hQ:iI (⟨[],[]⟩:St).aw.length (⟨[],[]⟩:St).aA.length _ _ (⟨[],[]⟩:St)=Q
 have⟨hF,hP,hZ,gA⟩:=bH
 refine Sem.km ?_
 repeat' (first
 | simp only [go_sem,hF,hP,hZ,gA]
 | (with_reducible refine aG hQ ?_;simp only [ay,az,Option.some.injEq,exists_eq_left',go_sem,hF,hP,hZ,gA];repeat' (first | exact Ok.out | with_reducible refine aI ?_ ?_ | (simp;done))))
 refine Sem.km ?_
 repeat' (first
 | simp only [go_sem,hF,hP,hZ,gA]
 | (with_reducible refine CU (hk _) ?_)
 | (with_reducible refine aG hQ ?_;simp only [ay,az,Option.some.injEq,exists_eq_left',go_sem,hF,hP,hZ,gA];repeat' (first | exact Ok.out | with_reducible refine aI ?_ ?_ | (simp;done))))
 refine Sem.km ?_
 repeat' (first
 | simp only [go_sem,hF,hP,hZ,gA]
 | (with_reducible refine CU (dF _) ?_)
 | (with_reducible refine aG hQ ?_;simp only [ay,az,Option.some.injEq,exists_eq_left',go_sem,hF,hP,hZ,gA];repeat' (first | exact Ok.out | with_reducible refine aI ?_ ?_ | (simp;done))))
 refine Sem.km ?_
 repeat' (first
 | simp only [go_sem,hF,hP,hZ,gA]
 | (with_reducible refine aG hQ ?_;simp only [ay,az,Option.some.injEq,exists_eq_left',go_sem,hF,hP,hZ,gA];repeat' (first | exact Ok.out | with_reducible refine aI ?_ ?_ | (simp;done))))
 refine Sem.km ?_
 repeat' (first
 | simp only [go_sem,hF,hP,hZ,gA]
 | (with_reducible refine CU (WT _) ?_)
 | (with_reducible refine aG hQ ?_;simp only [ay,az,Option.some.injEq,exists_eq_left',go_sem,hF,hP,hZ,gA];repeat' (first | exact Ok.out | with_reducible refine aI ?_ ?_ | (simp;done))))
 refine bk.ov 6 1 rfl ?_
 simp only [go_sem,hF,hP,hZ,gA]
 refine cU 1 1 (bk.ind (ι:=List aC×Nat×List aC×Nat) (fun i=>N.drop i.2.1=i.1∧pP p i.2.2.1 i.1=R∧i.2.2.1.length≤R.length∧i.2.2.2=i.2.2.1.length) (fun i=>i.1.length)
  (fun i=> [(2, .ptr 0 0),(5, .dE (iu p) 0),(6, .slice (.tok 0) 1 (i.2.2.1.map encStr)),(21, .slice .shared 1 (N.map encStr)),(22, .int .i64 (N.length:Int)),(23, .int .i64 (i.2.1:Int))]) (fun i=>⟨[bC p],[some i.2.2.2]⟩) ?_ (N,0,[],0) ⟨rfl,hR,Nat.zero_le _,rfl⟩)
 rintro⟨rest,k,out,no⟩ ⟨h1,h2,h3,h4⟩ IH
 dsimp only at h1 h2 h3 h4
 subst h4
 cases rest with
 | nil=>
  have hF:=drop_nil h1
  simp only [pP]at h2
  subst h2
  have DG:(lE out).length=out.length:=List.length_mergeSort out
  repeat' (first
 | simp only [go_sem,hF,hP,hZ,gA]
 | (with_reducible refine aG hQ ?_;simp only [ay,az,Option.some.injEq,exists_eq_left',go_sem,hF,hP,hZ,gA];repeat' (first | exact Ok.out | with_reducible refine aI ?_ ?_ | (simp;done))))
  refine Sem.seq (Sem.sort (k:=6) (t:=0) (l:=out) hB (by decide) (by decide) (by decide) rfl rfl (by omega) ?_)
  refine Sem.seq (Sem.compact (k:=6) (t:=0) (l:=lE out) hB (by decide) rfl (by rw [DG];rfl) (by rw [DG];omega) ?_)
  rw [Az]
  refine im (ac:= .ret) (Q:=Q) (tm:= [(59, .slice (.tok 0) 1 ((jE out).map encStr)),(4, .slice (.tok 0) 1 ((jE out).map encStr))]) (s:=⟨[],[some (jE out).length]⟩) ?_
  repeat' (first
 | simp only [go_sem,hF,hP,hZ,gA]
 | (with_reducible refine aG hQ ?_;simp only [ay,az,Option.some.injEq,exists_eq_left',go_sem,hF,hP,hZ,gA];repeat' (first | exact Ok.out | with_reducible refine aI ?_ ?_ | (simp;done))))
 | cons x rest=>
  obtain⟨hP,g2,hF,g4⟩:=drop_cons h1
  have cv:k<4611686018427387904:=by omega
  obtain⟨g,DJ⟩:=hN.2 x (List.mem_of_getElem? hP)
  have hgm:=(p8 DJ).1
  have hbd:mJ p x=Sm.cW g.body:=by unfold mJ;rw [DJ]
  simp only [pP,hbd]at h2
  obtain⟨j,hj,tq⟩:=AA (k:=0) DJ
  have tq:p.at x=((j:Nat):Int):=by unfold Pg.at;simpa using tq
  have BP:=fun s=>QD (p:=p) (by omega) x s
  simp only [tq]at BP
  obtain⟨it,xG,DC⟩:=T5 hj (by omega)
  have abV:it.length≤900000:=by
   have e:=congrArg List.length xG
   obtain⟨a,b,e',_,_,e3,e4⟩:=(qi p).2 j g hj
   have e5:=qj p
   have e6:=congrArg List.length e3
   rw [e4]at e5
   simp only [List.length_map,List.length_append]at e e5 e6
   omega
  rw [← xG]at h2
  repeat' (first
 | simp only [go_sem,hF,hP,hZ,gA,hP]
 | (with_reducible refine CU (BP _) ?_)
 | (with_reducible refine CU (DC _) ?_)
 | (with_reducible refine aG hQ ?_;simp only [ay,az,Option.some.injEq,exists_eq_left',go_sem,hF,hP,hZ,gA];repeat' (first | exact Ok.out | with_reducible refine aI ?_ ?_ | (simp;done))))
  obtain⟨W,hW⟩ : ∃ W,oX p out (it.map Im.s)=W:=⟨_,rfl⟩
  rw [hW]at h2
  have hWR:W.length≤R.length:=by have:=(yF h rest W).1;rw [h2]at this;exact this
  have QO:out.length≤W.length:=by have:=(yE p (it.map Im.s) out).1;rw [hW]at this;exact this
  refine cU 1 1 (bk.ind (ι:=List Im×Nat×List aC×Nat) (fun i=>it.drop i.2.1=i.1∧oX p i.2.2.1 (i.1.map Im.s)=W∧i.2.2.1.length≤W.length∧i.2.2.2=i.2.2.1.length) (fun i=>i.1.length)
   (fun i=> [(2, .ptr 0 0),(5, .dE (iu p) 0),(6, .slice (.tok 0) 1 (i.2.2.1.map encStr)),(21, .slice .shared 1 (N.map encStr)),(22, .int .i64 (N.length:Int)),(23, .int .i64 (k:Int)),(31, .slice .shared 17 (it.map ff)),(32, .int .i64 (it.length:Int)),(33, .int .i64 (i.2.1:Int))]) (fun i=>⟨[bC p],[some i.2.2.2]⟩) ?_ (it,0,out,out.length) ⟨rfl,hW,QO,rfl⟩)
  rintro⟨vT,k2,Cp,no⟩ ⟨j1,j2,j3,j4⟩ Dq
  dsimp only at j1 j2 j3 j4
  subst j4
  cases vT with
  | nil=>
   have aoy:=drop_nil j1
   simp only [List.map_nil,oX]at j2
   subst j2
   repeat' (first
 | simp only [go_sem,hF,hP,hZ,gA,aoy]
 | (with_reducible refine aG hQ ?_;simp only [ay,az,Option.some.injEq,exists_eq_left',go_sem,hF,hP,hZ,gA];repeat' (first | exact Ok.out | with_reducible refine aI ?_ ?_ | (simp;done))))
   refine dZ 1 1 ?_ ?_ (IH (rest,k+1,Cp,Cp.length) ⟨g2,h2,hWR,rfl⟩ (Nat.lt_succ_self _))
   ·(simp only [go_sem,hF,hP,hZ,gA,aM cv];try exact bO)
   ·(simp only [go_sem,hF,hP,hZ,gA,aM cv];try exact bO)
  | cons y vT=>
   obtain⟨oI,KY,xL,jg4⟩:=drop_cons j1
   have sM:k2<4611686018427387904:=by omega
   have hym:y.s∈Sm.cW g.body:=by rw [← xG];exact List.mem_map_of_mem (List.mem_of_getElem? oI)
   have Vg:=h.said hgm _ hym
   have WG:=fun s=>Au Vg s
   have DG:=IT _ Vg
   simp only [List.map_cons,oX]at j2
   repeat' (first
 | simp only [go_sem,hF,hP,hZ,gA,xL,oI]
 | (with_reducible refine CU (WG _) ?_)
 | (with_reducible refine aG hQ ?_;simp only [ay,az,Option.some.injEq,exists_eq_left',go_sem,hF,hP,hZ,gA];repeat' (first | exact Ok.out | with_reducible refine aI ?_ ?_ | (simp;done))))
   obtain⟨V,hV⟩ : ∃ V,oW p Cp y.s.said=V:=⟨_,rfl⟩
   rw [hV]at j2
   have hVW:V.length≤W.length:=by have:=(yE p (vT.map Im.s) V).1;rw [j2]at this;exact this
   have hoV:Cp.length≤V.length:=by have:=(yD p y.s.said Cp).1;rw [hV]at this;exact this
   refine cU 1 1 (bk.ind (ι:=List aC×Nat×List aC×Nat) (fun i=>y.s.said.drop i.2.1=i.1∧oW p i.2.2.1 i.1=V∧i.2.2.1.length≤V.length∧i.2.2.2=i.2.2.1.length) (fun i=>i.1.length)
    (fun i=> [(2, .ptr 0 0),(5, .dE (iu p) 0),(6, .slice (.tok 0) 1 (i.2.2.1.map encStr)),(21, .slice .shared 1 (N.map encStr)),(22, .int .i64 (N.length:Int)),(23, .int .i64 (k:Int)),(31, .slice .shared 17 (it.map ff)),(32, .int .i64 (it.length:Int)),(33, .int .i64 (k2:Int)),(39, .slice .shared 1 (y.s.said.map encStr)),(40, .int .i64 (y.s.said.length:Int)),(41, .int .i64 (i.2.1:Int))]) (fun i=>⟨[bC p],[some i.2.2.2]⟩) ?_ (y.s.said,0,Cp,Cp.length) ⟨rfl,hV,hoV,rfl⟩)
   rintro⟨DK,k3,yG,no⟩ ⟨l1,l2,l3,l4⟩ IH3
   dsimp only at l1 l2 l3 l4
   subst l4
   cases DK with
   | nil=>
    have aoz:=drop_nil l1
    simp only [oW]at l2
    subst l2
    repeat' (first
 | simp only [go_sem,hF,hP,hZ,gA,aoz]
 | (with_reducible refine aG hQ ?_;simp only [ay,az,Option.some.injEq,exists_eq_left',go_sem,hF,hP,hZ,gA];repeat' (first | exact Ok.out | with_reducible refine aI ?_ ?_ | (simp;done))))
    refine dZ 1 1 ?_ ?_ (Dq (vT,k2+1,yG,yG.length) ⟨KY,j2,hVW,rfl⟩ (Nat.lt_succ_self _))
    ·(simp only [go_sem,hF,hP,hZ,gA,aM sM];try exact bO)
    ·(simp only [go_sem,hF,hP,hZ,gA,aM sM];try exact bO)
   | cons z DK=>
    obtain⟨ab8,lg2,llt,lg4⟩:=drop_cons l1
    have WU:k3<4611686018427387904:=by omega
    have F2:=fun g s=>jb (l:=p.globals) (by omega) z g s
    simp only [oW]at l2
    rcases Bool.eq_false_or_eq_true (er p.globals z)with c1 | c1
    ·simp only [c1,if_true]at l2
     have hZ:(yG.length+1)*17≤bm:=by unfold bm;omega
     have hoo:(yG++ [z]).length≤V.length:=by have:=(yD p DK (yG++ [z])).1;rw [l2]at this;exact this
     repeat' (first
 | simp only [go_sem,hF,hP,hZ,gA,llt,ab8,c1]
 | (with_reducible refine CU (F2 _ _) ?_)
 | (with_reducible refine aG hQ ?_;simp only [ay,az,Option.some.injEq,exists_eq_left',go_sem,hF,hP,hZ,gA];repeat' (first | exact Ok.out | with_reducible refine aI ?_ ?_ | (simp;done))))
     refine dZ 1 1 ?_ ?_ (IH3 (DK,k3+1,yG++ [z],yG.length+1) ⟨lg2,l2,hoo,by simp⟩ (Nat.lt_succ_self _))
     ·(simp only [go_sem,hF,hP,hZ,gA,aM WU,List.map_append,List.map_cons,List.map_nil,encStr];try exact bO)
     ·(simp only [go_sem,hF,hP,hZ,gA,aM WU,List.map_append,List.map_cons,List.map_nil,encStr];try exact bO)
    ·simp only [c1,Bool.false_eq_true,if_false]at l2
     repeat' (first
 | simp only [go_sem,hF,hP,hZ,gA,llt,ab8,c1]
 | (with_reducible refine CU (F2 _ _) ?_)
 | (with_reducible refine aG hQ ?_;simp only [ay,az,Option.some.injEq,exists_eq_left',go_sem,hF,hP,hZ,gA];repeat' (first | exact Ok.out | with_reducible refine aI ?_ ?_ | (simp;done))))
     refine dZ 1 1 ?_ ?_ (IH3 (DK,k3+1,yG,yG.length) ⟨lg2,l2,l3,rfl⟩ (Nat.lt_succ_self _))
     ·(simp only [go_sem,hF,hP,hZ,gA,aM WU];try exact bO)
     ·(simp only [go_sem,hF,hP,hZ,gA,aM WU];try exact bO)
end Go.Abs

/-! Tc7 -/

namespace Go.Abs
open Go.Proofs
end Go.Abs

/-! ScPr -/

namespace Go.Abs
open Go.Proofs
end Go.Abs

/-! ToP -/

namespace Go.Abs
theorem QW {out:List aC} {x y:aC} : y∈sj out x↔y∈out∨y=x:=by
 unfold sj
 split
 ·rename_i e
  have:=(fW _ _).1 e
  constructor
  ·exact .inl
  ·rintro(h | rfl) <;> assumption
 ·simp
theorem uV {y:aC} : ∀ {l out:List aC},y∈rO out l↔y∈out∨y∈l
 | [],out=>by simp [rO]
 | x::l,out=>by
  simp only [rO,uV (l:=l),QW,List.mem_cons,or_assoc]
theorem I6 (p:Pg) {y:aC} : ∀ (n i:Nat) (out:List aC),y∈out→y∈l7 p n i out
 | 0,i,out,h=>h
 | n+1,i,out,h=>by
  simp only [l7]
  split
  ·exact I6 p n _ _ (uV.2 (.inl h))
  ·exact h
theorem I7 : ∀ (l out:List aC),∃ e,rO out l=out++e
 | [],out=>⟨[],by simp [rO]⟩
 | x::l,out=>by
  obtain⟨e,h⟩:=I7 l (sj out x)
  simp only [rO,h]
  unfold sj
  split
  ·exact⟨e,rfl⟩
  ·exact⟨x::e,by simp⟩
theorem BS {p:Pg} (kT:(p.scope.1==0)=true) : ∀ (n i:Nat) (out:List aC),Good p out→n+i=p.procs.length+1→(∀ (j:Nat) (x:aC),j<i→out[j]? = some x→∀ y∈nF p x,y∈out)→
 ∀ x∈l7 p n i out,∀ y∈nF p x,y∈l7 p n i out
 | 0,i,out,hg,hn,hc,x,hx,y,hy=>by
  simp only [l7]at hx ⊢
  obtain⟨j,hj⟩:=List.getElem?_of_mem hx
  have:=hg.len
  have:=(List.getElem?_eq_some_iff.1 hj).1
  exact hc j x (by omega) hj y hy
 | n+1,i,out,hg,hn,hc,x,hx,y,hy=>by
  simp only [l7]at hx ⊢
  split at hx
  ·rename_i z hz
   obtain⟨g,pj⟩:=hg.2 z (List.mem_of_getElem? hz)
   refine BS kT n (i+1) _ (hg.add fun y m=> ?_) (by omega) (fun j x hj WV y hy=> ?_) x hx y hy
   ·unfold nF at m
    rw [pj]at m
    exact wQ kT (p8 pj).1 m
   ·obtain⟨e,he⟩:=I7 (nF p z) out
    have hi:=(List.getElem?_eq_some_iff.1 hz).1
    rw [he,List.getElem?_append_left (by omega)]at WV
    rcases Nat.lt_or_ge j i with h1 | h1
    ·exact uV.2 (.inl (hc j x h1 WV y hy))
    ·have:j=i:=by omega
     subst this
     rw [hz]at WV
     cases WV
     exact uV.2 (.inr hy)
  ·rename_i hz
   obtain⟨j,hj⟩:=List.getElem?_of_mem hx
   have h1:=(List.getElem?_eq_some_iff.1 hj).1
   have h2:=List.getElem?_eq_none_iff.1 hz
   exact hc j x (by omega) hj y hy
theorem DL {p:Pg} {S:aC→Prop} (hS : ∀ x,S x→∀ y∈nF p x,S y) : ∀ (n i:Nat) (out:List aC),(∀ x∈out,S x)→∀ x∈l7 p n i out,S x
 | 0,i,out,h,x,hx=>h x hx
 | n+1,i,out,h,x,hx=>by
  simp only [l7]at hx
  split at hx
  ·rename_i z hz
   exact DL hS n _ _ (fun y hy=>(uV.1 hy).elim (h y) (hS z (h z (List.mem_of_getElem? hz)) y)) x hx
  ·exact h x hx
theorem F3 {p:Pg} {x:aC} : ∀ {l out:List aC},x∈oW p out l↔x∈out∨(x∈l∧x∈p.globals)
 | [],out=>by simp [oW]
 | v::l,out=>by
  simp only [oW,F3 (l:=l),List.mem_cons]
  cases e:er p.globals v
  ·have:v∉p.globals:=fun m=>by rw [(fW _ _).2 m]at e;cases e
   simp only [Bool.false_eq_true,if_false]
   constructor
   ·rintro(h | ⟨h,k⟩)
    ·exact .inl h
    ·exact .inr ⟨.inr h,k⟩
   ·rintro(h | ⟨rfl | h,k⟩)
    ·exact .inl h
    ·exact absurd k this
    ·exact .inr ⟨h,k⟩
  ·have:v∈p.globals:=(fW _ _).1 e
   simp only [if_true,List.mem_append,List.mem_singleton]
   constructor
   ·rintro((h | rfl) | ⟨h,k⟩)
    ·exact .inl h
    ·exact .inr ⟨.inl rfl,this⟩
    ·exact .inr ⟨.inr h,k⟩
   ·rintro(h | ⟨rfl | h,k⟩)
    ·exact .inl (.inl h)
    ·exact .inl (.inr rfl)
    ·exact .inr ⟨h,k⟩
def pQ:List Sm→List aC
 | []=> []
 | v::l=>v.said++pQ l
theorem F4 {p:Pg} {x:aC} : ∀ {l:List Sm} {out:List aC},x∈oX p out l↔x∈out∨(x∈pQ l∧x∈p.globals)
 | [],out=>by simp [oX,pQ]
 | v::l,out=>by
  simp only [oX,F4 (l:=l),F3,pQ,List.mem_append]
  constructor
  ·rintro((h | ⟨h,k⟩) | ⟨h,k⟩)
   ·exact .inl h
   ·exact .inr ⟨.inl h,k⟩
   ·exact .inr ⟨.inr h,k⟩
  ·rintro(h | ⟨h | h,k⟩)
   ·exact .inl (.inl h)
   ·exact .inl (.inr ⟨h,k⟩)
   ·exact .inr ⟨h,k⟩
def yH (p:Pg):List aC→List aC
 | []=> []
 | n::l=>pQ (mJ p n)++yH p l
theorem F5 {p:Pg} {x:aC} : ∀ {l:List aC},x∈yH p l↔∃ n∈l,x∈pQ (mJ p n)
 | []=>by simp [yH]
 | n::l=>by simp [yH,F5 (l:=l)]
theorem F6 {p:Pg} {x:aC} : ∀ {l out:List aC},x∈pP p out l↔x∈out∨(x∈yH p l∧x∈p.globals)
 | [],out=>by simp [pP,yH]
 | v::l,out=>by
  simp only [pP,F6 (l:=l),F4,yH,List.mem_append]
  constructor
  ·rintro((h | ⟨h,k⟩) | ⟨h,k⟩)
   ·exact .inl h
   ·exact .inr ⟨.inl h,k⟩
   ·exact .inr ⟨.inr h,k⟩
  ·rintro(h | ⟨h | h,k⟩)
   ·exact .inl (.inl h)
   ·exact .inl (.inr ⟨h,k⟩)
   ·exact .inr ⟨h,k⟩
theorem F7 {p:Pg} {nm x:aC} {f:Pc} (h:p.rP nm=some f):x∈p.kU nm↔(∃ n∈p.work nm,x∈pQ (mJ p n))∧x∈p.globals:=by
 unfold Pg.kU
 rw [h]
 dsimp only
 rw [(jO _).2]
 unfold Pg.p9
 rw [F6,F5]
 simp only [(jO _).2,List.not_mem_nil,false_or]
end Go.Abs

/-! FlP -/

namespace Go.Abs
mutual
def Sm.mK (deep bY:Int) (aP:Bool):Sm→List It
 | ⟨id,kind,labels,name,proc,x,has,args,aY,e⟩=>⟨⟨id,kind,labels,name,proc,x,has,args,aY,e⟩,deep,bY,aP⟩::(Sm.oJ (deep+1) id false aY++Sm.oJ (deep+1) id true e)
def Sm.oJ (deep bY:Int) (aP:Bool):List Sm→List It
 | []=> []
 | s::l=>s.mK deep bY aP++Sm.oJ deep bY aP l
end
mutual
theorem QX (deep bY:Int) (aP:Bool) (out:List It) : ∀ s:Sm,(gy deep bY aP out s).length≤200→(∀ i∈gy deep bY aP out s,i.deep≤12)→gy deep bY aP out s=out++s.mK deep bY aP
 | ⟨id,kind,labels,name,proc,x,has,args,aY,e⟩,h1,h2=>by
  simp only [gy,Sm.mK]at h1 h2 ⊢
  by_cases hd:deep≤12
  ·simp only [hd,decide_true,if_true]at h1 h2 ⊢
   obtain⟨e2,g2⟩:=oG (deep+1) id true (eA (deep+1) id false (out++ [⟨⟨id,kind,labels,name,proc,x,has,args,aY,e⟩,deep,bY,aP⟩]) aY) e
   have k1:(eA (deep+1) id false (out++ [⟨⟨id,kind,labels,name,proc,x,has,args,aY,e⟩,deep,bY,aP⟩]) aY).length≤200:=by
    rw [g2,List.length_append]at h1;omega
   have k2 : ∀ i∈eA (deep+1) id false (out++ [⟨⟨id,kind,labels,name,proc,x,has,args,aY,e⟩,deep,bY,aP⟩]) aY,i.deep≤12:=fun i m=>h2 i (by rw [g2];exact List.mem_append_left _ m)
   rw [vU (deep+1) id true _ e h1 h2,vU (deep+1) id false _ aY k1 k2]
   simp
  ·simp only [hd,decide_false,Bool.false_eq_true,if_false]at h1 h2
   exact absurd (h2 _ (List.mem_append_right _ (List.mem_singleton.2 rfl))) (by simpa using hd)
theorem vU (deep bY:Int) (aP:Bool) (out:List It) : ∀ l:List Sm,(eA deep bY aP out l).length≤200→(∀ i∈eA deep bY aP out l,i.deep≤12)→eA deep bY aP out l=out++Sm.oJ deep bY aP l
 | [],h1,h2=>by simp [eA,Sm.oJ]
 | s::l,h1,h2=>by
  simp only [eA,Sm.oJ]at h1 h2 ⊢
  by_cases hc:(out.length:Int)≤200
  ·simp only [hc,decide_true,if_true]at h1 h2 ⊢
   obtain⟨e2,g2⟩:=oG deep bY aP (gy deep bY aP out s) l
   have k1:(gy deep bY aP out s).length≤200:=by rw [g2,List.length_append]at h1;omega
   have k2 : ∀ i∈gy deep bY aP out s,i.deep≤12:=fun i m=>h2 i (by rw [g2];exact List.mem_append_left _ m)
   rw [vU deep bY aP _ l h1 h2,QX deep bY aP out s k1 k2]
   simp
  ·simp only [hc,decide_false,Bool.false_eq_true,if_false]at h1
   omega
end
theorem I8 : ∀ (l:List Pc) (out:List It),(allM out l).length≤200→(∀ i∈allM out l,i.deep≤12)→(∀ f∈l,f.flat=Sm.oJ 1 0 false f.body)∧allM out l=out++(l.map fun f=>Sm.oJ 1 0 false f.body).flatten
 | [],out,h1,h2=>⟨fun f m=>(by cases m),by simp [allM]⟩
 | f::l,out,h1,h2=>by
  simp only [allM]at h1 h2 ⊢
  by_cases hc:(((out++f.flat).length:Nat):Int) > 200
  ·simp only [hc,decide_true,if_true]at h1;omega
  ·simp only [hc,decide_false,Bool.false_eq_true,if_false]at h1 h2 ⊢
   obtain⟨k1,k2⟩:=I8 l (out++f.flat) h1 h2
   have k3:f.flat=Sm.oJ 1 0 false f.body:=by
    have:=vU 1 0 false [] f.body (by
     have:f.flat.length≤200:=by simp only [List.length_append]at hc;omega
     exact this) (fun i m=>h2 i (by rw [k2];exact List.mem_append_left _ (List.mem_append_right _ m)))
    simpa [Pc.flat]using this
   refine⟨fun g m=> ?_, ?_⟩
   ·rcases List.mem_cons.1 m with rfl | m
    ·exact k3
    ·exact k1 g m
   ·rw [k2,k3];simp
theorem Yo {p:Pg} (h:p.may=true):(∀ f∈p.procs,f.flat=Sm.oJ 1 0 false f.body)∧p.all=(p.procs.map fun f=>Sm.oJ 1 0 false f.body).flatten:=by
 obtain⟨h1,h2⟩:=Be h
 have:=I8 p.procs [] h1 (vR _ 0 h2).1
 simpa [Pg.all]using this
mutual
theorem afF (deep bY:Int) (aP:Bool) : ∀ s:Sm,(s.mK deep bY aP).map It.s=s.pre
 | ⟨id,kind,labels,name,proc,x,has,args,aY,e⟩=>by
  simp only [Sm.mK,Sm.pre,List.map_cons,List.map_append,DM _ _ _ aY,DM _ _ _ e]
theorem DM (deep bY:Int) (aP:Bool) : ∀ l:List Sm,(Sm.oJ deep bY aP l).map It.s=Sm.cW l
 | []=>rfl
 | s::l=>by simp only [Sm.oJ,Sm.cW,List.map_append,afF _ _ _ s,DM _ _ _ l]
end
def DN (l:List Sm) (none:Int):Int:=match l with | []=>none | t::_=>t.id
mutual
def Sm.uW (proc up next loop:Int):Sm→List Im
 | ⟨id,kind,labels,name,pc,x,has,args,aY,aP⟩=>⟨⟨id,kind,labels,name,pc,x,has,args,aY,aP⟩,proc,up,next,loop⟩::
  (Sm.kb proc id (if kind==6 then id else next) (if kind==6 then id else loop) aY++Sm.kb proc id (if kind==6 then id else next) (if kind==6 then id else loop) aP)
def Sm.kb (proc up next loop:Int):List Sm→List Im
 | []=> []
 | s::l=>s.uW proc up (DN l next) loop++Sm.kb proc up next loop l
end
def pg (n:Nat) (l:List Sm):Prop:=∀ (i:Nat) (v:Sm),l[i]? = some v→v.id=((n+i+1:Nat):Int)
theorem pg.head {n:Nat} {v:Sm} {l:List Sm} (h:pg n (v::l)):v.id=((n+1:Nat):Int):=h 0 v rfl
theorem pg.tail {n:Nat} {v:Sm} {l:List Sm} (h:pg n (v::l)):pg (n+1) l:=fun i w hw=>by
 rw [h (i+1) w (by simpa using hw)];congr 1;omega
theorem pg.left {n:Nat} {a b:List Sm} (h:pg n (a++b)):pg n a:=fun i w hw=>h i w (by rw [List.getElem?_append_left (List.getElem?_eq_some_iff.1 hw).1];exact hw)
theorem pg.right {n:Nat} {a b:List Sm} (h:pg n (a++b)):pg (n+a.length) b:=fun i w hw=>by
 rw [h (a.length+i) w (by rw [List.getElem?_append_right (by omega)];simpa using hw)];congr 1;omega
theorem Un (s:Sm):s.pre=s::(Sm.cW s.aY++Sm.cW s.aP):=Sm.xK s
mutual
theorem K3 : ∀ s:Sm,s.fV=s.pre.length
 | ⟨id,kind,labels,name,proc,x,has,args,aY,aP⟩=>by
  simp only [Sm.fV,Sm.pre,List.length_cons,List.length_append,yI aY,yI aP];omega
theorem yI : ∀ l:List Sm,Sm.dC l=(Sm.cW l).length
 | []=>rfl
 | s::l=>by simp only [Sm.dC,Sm.cW,List.length_append,K3 s,yI l]
end
mutual
theorem WW (proc up next loop:Int) : ∀ s:Sm,(s.uW proc up next loop).map Im.s=s.pre
 | ⟨id,kind,labels,name,pc,x,has,args,aY,aP⟩=>by
  simp only [Sm.uW,Sm.pre,List.map_cons,List.map_append,uX _ _ _ _ aY,uX _ _ _ _ aP]
theorem uX (proc up next loop:Int) : ∀ l:List Sm,(Sm.kb proc up next loop l).map Im.s=Sm.cW l
 | []=>rfl
 | s::l=>by simp only [Sm.kb,Sm.cW,List.map_append,WW _ _ _ _ s,uX _ _ _ _ l]
end
theorem Yp (proc up next loop:Int) (s:Sm):(s.uW proc up next loop).length=s.pre.length:=by rw [← WW proc up next loop s,List.length_map]
theorem I9 (proc up next loop:Int) (l:List Sm):(Sm.kb proc up next loop l).length=(Sm.cW l).length:=by rw [← uX proc up next loop l,List.length_map]
mutual
theorem Yq (proc up next loop:Int) (out:List Im) : ∀ s:Sm,pg out.length s.pre→Im.one proc up next loop out s=out++s.uW proc up next loop
 | ⟨id,kind,labels,name,pc,x,has,args,aY,aP⟩,h=>by
  simp only [Sm.pre]at h
  have h0:id=((out.length+1:Nat):Int):=h.head
  have h1:=h.tail.left
  have h2:=h.tail.right
  have e0:((out.length:Int)+1)=id:=by rw [h0];rfl
  simp only [Im.one,Sm.uW,e0]
  rw [yJ proc id _ _ (out++ [_]) aY (by rw [List.length_append];exact h1)]
  rw [yJ proc id _ _ _ aP (by
   rw [List.length_append,List.length_append,I9];exact h2)]
  simp
theorem yJ (proc up next loop:Int) (out:List Im) : ∀ l:List Sm,pg out.length (Sm.cW l)→Im.rows proc up next loop out l=out++Sm.kb proc up next loop l
 | [],h=>by simp [Im.rows,Sm.kb]
 | s::l,h=>by
  simp only [Sm.cW]at h
  have e:(if l.length=0 then next else(out.length:Int)+1+(s.fV:Int))=DN l next:=by
   cases l with
   | nil=>rfl
   | cons t l=>
    have h2:=h.right
    simp only [Sm.cW]at h2
    rw [Un t]at h2
    simp only [List.length_cons,DN]
    rw [if_neg (by omega),h2.head,K3]
    omega
  simp only [Im.rows,Sm.kb,e]
  rw [Yq proc up _ loop out s h.left,yJ proc up next loop _ l (by rw [List.length_append,Yp];exact h.right)]
  simp
end
def E5 (n:Nat):List Pc→List Im
 | []=> []
 | f::l=>Sm.kb n 0 (-1) 0 f.body++E5 (n+1) l
theorem Yr {p:Pg} (h:p.may=true):pg 0 p.pre:=fun i v hv=>by rw [IW h hv];congr 1;omega
def QY (l:List It):Nat→Int→Int
 | 0,_=>0
 | n+1,bY=>if bY==0 then 0 else match l[n]? with
  | none=>0
  | some x=>if x.s.id != bY then QY l n bY else if x.s.kind==6 then bY else QY l n x.bY
def Up (L:List It) (k:Nat) (mK:List It) (uW:List Im):Prop:=∀ (i:Nat) (a:It) (b:Im),mK[i]? = some a→uW[i]? = some b→a.s=b.s∧a.bY=b.up∧QY L (k+i) a.bY=b.loop
end Go.Abs

/-! JmpP -/

namespace Go.Abs
def iE (seen:List aC):List aC→List aC×Bool
 | []=>(seen,true)
 | n::l=>if er seen n then(seen,false)else iE (seen++ [n]) l
theorem AJ : ∀ (l seen:List aC),iE seen l=(if pD seen l then((iE seen l).1,false)else(seen++l,true))
 | [],seen=>by simp [iE,pD]
 | n::l,seen=>by
  simp only [iE,pD]
  split
  ·rfl
  ·rw [AJ l (seen++ [n])]
   split
   ·rfl
   ·simp
theorem K4 : ∀ (a b seen:List aC),pD seen (a++b)=(pD seen a || pD (seen++a) b)
 | [],b,seen=>by simp [pD]
 | x::a,b,seen=>by
  simp only [List.cons_append,pD]
  split
  ·rfl
  ·rw [K4 a b (seen++ [x])];simp
theorem F8 : ∀ (l seen:List aC),seen.length≤(iE seen l).1.length∧(iE seen l).1.length≤seen.length+l.length
 | [],seen=>by simp [iE]
 | n::l,seen=>by
  simp only [iE]
  split
  ·simp
  ·have:=F8 l (seen++ [n]);simp at this ⊢;omega
def jT (kv:List aC) (v:Sm) (loop:Int):Bool:=if v.kind==7 || v.kind==8 then loop != 0 else if v.kind==10 then er kv v.name else true
def sk (kv fin seen:List aC):List (Sm×Int)→Option Int
 | []=>if(iE seen fin).2 then none else some 0
 | (v,lp)::l=>if(iE seen v.labels).2 then(if jT kv v lp then sk kv fin (iE seen v.labels).1 l else some v.id)else some v.id
def fI:List Sm→List aC
 | []=> []
 | v::l=>v.labels++fI l
def Pc.labels (f:Pc):List aC:=fI (Sm.cW f.body)++f.fin
def Im.pair (m:Im):Sm×Int:=(m.s,m.loop)
def Pc.qX (f:Pc):List (Sm×Int):=(Sm.kb 0 0 (-1) 0 f.body).map Im.pair
def sm:List Pc→Option Int
 | []=>none
 | f::l=>match sk f.labels f.fin [] f.qX with
  | some id=>some id
  | none=>sm l
def xP (c:Int):Option Int→Int×Int
 | some id=>(c,id)
 | none=>(0,0)
def Pg.jump (p:Pg):Int×Int:=if p.scope.1==0 then xP 7 (sm p.procs)else(1,0)
mutual
theorem Uo (proc up next tZ QZ next' loop:Int) : ∀ s:Sm,(s.uW proc up next loop).map Im.pair=(s.uW tZ QZ next' loop).map Im.pair
 | ⟨id,kind,labels,name,pc,x,has,args,aY,aP⟩=>by
  simp only [Sm.uW,List.map_cons,List.map_append,Im.pair]
  rw [vV proc id _ tZ id (if kind==6 then id else next') _ aY,vV proc id _ tZ id (if kind==6 then id else next') _ aP]
theorem vV (proc up next tZ QZ next' loop:Int) : ∀ l:List Sm,(Sm.kb proc up next loop l).map Im.pair=(Sm.kb tZ QZ next' loop l).map Im.pair
 | []=>rfl
 | s::l=>by
  simp only [Sm.kb,List.map_append]
  rw [Uo proc up _ tZ QZ (DN l next') loop s,vV proc up next tZ QZ next' loop l]
end
theorem Uq (n:Int) (f:Pc):(Sm.kb n 0 (-1) 0 f.body).map Im.pair=f.qX:=vV _ _ _ _ _ _ _ _
theorem Ys (f:Pc):f.qX.map Prod.fst=Sm.cW f.body:=by
 unfold Pc.qX
 rw [List.map_map, ← uX 0 0 (-1) 0 f.body]
 rfl
def K5 (l:List It):Nat→Int→Int
 | 0,_=>0
 | n+1,id=>match l[n]? with
  | none=>0
  | some x=>if x.s.id != id then K5 l n id else if QY l n x.bY != 0 then QY l n x.bY else K5 l n id
end Go.Abs
