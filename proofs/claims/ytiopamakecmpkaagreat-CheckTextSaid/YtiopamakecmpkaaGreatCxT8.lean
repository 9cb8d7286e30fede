/-
  What is proved here: part 8 of the road to the claim (Ref8, Ref9, Ref10, Glue2, LawAll, Ck2, MayLaw, MayLaw2, MayLaw3, Lx, Lx2, Sim, Sim2, Sim3, Sim4, MayLaw4, Full2, Binds1, Full3, Full4, Prim, Prim2, Pr1, Binds2, BindsL, BindsL2, Full5, Full7, Pe1, Pe2, Bld, Pr2, Pr3, Pr4, Ps1, Ps2, Pr5, Pr6, Ps3, Ps4, Ps5, Ps6, Ps7, Swap3, Some, Toks, Toks2, LawCk1, Join, Join2, Join3, Join4, Join5).
  No conditions.
-/
import Derived.Test.YtiopamakecmpkaaGreatCxT7
import Derived.RowKit3
import Derived.Test.YtiopamakecmpkaaGreatRows
import Derived.WalkKit
import Derived.ProofKit
import Derived.OpenShut
import Derived.ShutString
import Derived.ChangeMaps5
import Derived.Lib.ItoaMem
import Derived.Shelf.Strings.Builder1
import Derived.Lib.Join
import Derived.ChangeStays
import Derived.KernelRfl

set_option linter.unusedSimpArgs false
set_option linter.unusedVariables false
namespace Go.Abs
set_option maxRecDepth 8000
set_option maxHeartbeats 4000000
open Go.Proofs
theorem oV {r:Rd} {s:aB} {b:Bool} (h:r.is s=some b) (hg:r.good=true):r.uE s=some b:=by simp only[Rd.uE,hg,↓reduceIte,h]
theorem PR {m n:Nat} (stm : ∀ j<n,Bo m j) {k:Int} {z:D} [Cell z] {r r1:Rd} {p:(List Sm×List aB)×Rd} (h1:r.want [123] = some r1) (h:Rd.rows m (n+1) k false r1=some p) (hT:TW r.l)
 (hz:r1.good=true→z = .int .i64 r1.n) (hN:r1.good=true→r1.n≤200) :
 aC Tryz.prog 156 [.ptr 0 0, .int .i64 k, .bool false] ⟨[bC z r],[]⟩ (.tuple [.slice .shared 13 ((Sm.b7 true r1.n p.1.1).1.map bn), .slice .shared 1 (p.1.2.map encStr)]) ⟨[bC (cN p.2) p.2],[]⟩:=by
 simp only[Rd.rows]at h
 have kw:=dS (df.refl r) _ _ h1
 have wa:=fun {z:D} [Cell z] {s:St} {o:Nat} (ho:s.aw[o]? = some (bC z r))=>fY h1 ho
 cases hg:r1.good
 ·cases n with
  |zero=>simp only[Rd.dI]at h;cases h
  |succ n=>
   simp only[Rd.dI,hg,zaa,↓reduceIte]at h
   cases h
   simp only[Sm.b7,kR hg]
   refine aC.go nA.h rfl fun B Q hB hQ=>?_
   have⟨hC,hE,hF,hS⟩:=bt
   repeat' (first
 |simp only[go_sem,hC,hE,hF,hS]
 |(with_reducible refine CU (wa (by with_unfolding_all rfl)) ?_)
 |(with_reducible refine CU (dm (by with_unfolding_all rfl)) ?_)
 |(with_reducible refine aV.gO ?_)
 |(with_reducible first|refine aX fun hc=>?_|refine aY fun hc=>?_|refine aZ (fun hc=>?_) fun hc=>?_)<;>(try simp only[hc,bs,↓reduceIte]at h)<;>try simp only[hc]
 |(with_reducible refine ay hQ ?_;exact aK))
 ·have e:=hz hg
  subst e
  refine aC.go nA.h rfl fun B Q hB hQ=>?_
  have⟨hC,hE,hF,hS⟩:=bt
  repeat' (first
 |simp only[go_sem,hC,hE,hF,hS]
 |(with_reducible refine CU (wa (by with_unfolding_all rfl)) ?_)
 | (with_reducible refine ay hQ ?_;exact aK))
  refine aV.gY 8 13 rfl ?_
  simp only[go_sem,hC,hE,hF,hS]
  refine b9 1 1 ?_ ?_ (aV.ind (ι:=Nat×List Sm×Rd×Nat) (fun i=>Rd.dI m i.1 k false i.2.1 i.2.2.1=some p∧i.2.2.2=i.2.1.length∧i.1≤n∧i.2.2.1.good=true∧i.2.2.1.l=r.l∧i.2.2.1.n≤200∧(Sm.b7 true r1.n i.2.1).2=i.2.2.1.n) (fun i=>i.1)
   (fun i=> [(0, .ptr 0 0),(1, .int .i64 k),(2, .bool false),(8, .slice (.tok 0) 13 ((Sm.b7 true r1.n i.2.1).1.map bn))]) (fun i=>⟨[bC (.int .i64 i.2.2.1.n) i.2.2.1],[some i.2.2.2]⟩) ?_ (n,[],r1,0) ⟨h,rfl,zaj _,hg,kw.l,hN hg,rfl⟩)
  ·(simp only[go_sem,hC,hE,hF,hS,Sm.b7,zah];try exact aT)
  ·(simp only[go_sem,hC,hE,hF,hS,Sm.b7,zah];try exact aT)
  rintro⟨j,out,r2,kk⟩ ⟨h,hk,hj,ji,ew,jI,eU⟩ IH
  dsimp only at hk hj ji ew jI eU;subst hk
  cases j with
  |zero=>simp only[Rd.dI]at h;cases h
  |succ j=>
   have yL:=@stm j (by omega)
   simp only[Rd.dI,ji,↓reduceIte]at h
   rw[zab]at h
   obtain⟨l,h,hr⟩:=h
   repeat' (first
 |simp only[go_sem,hC,hE,hF,hS]
 |(with_reducible refine CU (dm (by with_unfolding_all rfl)) ?_)
 |(with_reducible first|refine aX fun hc=>?_|refine aY fun hc=>?_|refine aZ (fun hc=>?_) fun hc=>?_)<;>(try simp only[hc,bs,↓reduceIte]at h)<;>try simp only[hc]
 | (with_reducible refine ay hQ ?_;exact aK))
   refine aV.gY 9 1 rfl ?_
   simp only[go_sem,hC,hE,hF,hS]
   refine b9 1 2 ?_ ?_ (aV.ind (ι:=Nat×List aB×Rd×Nat) (fun i=>Rd.labels i.1 i.2.1 i.2.2.1=some l∧i.2.2.2=i.2.1.length∧df r2 i.2.2.1∧i.2.2.1.good=true) (fun i=>i.1)
    (fun i=> [(0, .ptr 0 0),(1, .int .i64 k),(2, .bool false),(8, .slice (.tok 0) 13 ((Sm.b7 true r1.n out).1.map bn)),(9, .slice (.tok 1) 1 (i.2.1.map encStr))]) (fun i=>⟨[bC (.int .i64 r2.n) i.2.2.1],[some out.length,some i.2.2.2]⟩) ?_ (m,[],r2,0) ⟨h,rfl,df.refl _,ji⟩)
   ·(simp only[go_sem,hC,hE,hF,hS,zah];try exact aT)
   ·(simp only[go_sem,hC,hE,hF,hS,zah];try exact aT)
   rintro⟨j2,ls,r3,kk⟩ ⟨h,hk,iS,oW⟩ DH
   dsimp only at hk iS oW;subst hk
   cases j2 with
   |zero=>simp only[Rd.labels]at h;cases h
   | succ j2=>
    simp only[Rd.labels,Rd.ahead,oW,↓reduceIte]at h
    rw[zaY,zab]at h
    obtain⟨t,ht,h⟩:=h
    obtain⟨hC,hE,y7,y8⟩:=fh ht
    have nj:cN {r3 with i:=r3.i+1} = .int .i64 r2.n:=(pH (r:= {r3 with i:=r3.i+1}) oW).trans (congrArg (fun n:Nat=>D.int .i64 n) iS.n)
    simp only[ht,zam]at h
    cases fj:t.kind==1
    ·simp only [fj,zaa, ↓reduceIte,zam]at h
     cases h
     dsimp only at hr
     replace h:=hr
     clear hr
     repeat' (first
 |simp only[go_sem,hC,hE,hF,hS,fj,nj]
 |(rw[zab]at h;obtain⟨_,h1,h⟩:=h;first|(with_reducible refine CU (kN (oV h1 oW) (by with_unfolding_all rfl)) ?_))
 |(with_reducible refine CU (dm (by with_unfolding_all rfl)) ?_)
 |(with_reducible first|refine aX fun hc=>?_|refine aY fun hc=>?_|refine aZ (fun hc=>?_) fun hc=>?_)<;>(try simp only[hc,bs,↓reduceIte]at h)<;>try simp only[hc]
 |((with_reducible refine ay hQ ?_);(try cases h);simp only[bp,bq,bS,bT,go_sem,hC,hE,hF,hS,fj,nj];repeat' (first|exact Ok.out|with_reducible refine eJ ?_ ?_|(simp;done))))
     all_goals
      rw[zab]at h
      obtain⟨sv,hs,h⟩:=h
      rw[zab]at h
      obtain⟨o2,hp,h⟩:=h
      obtain⟨hF,rfl⟩:=dH hp
      have gV:r3.n=r2.n:=iS.n
      have AP:TW r3.l:=by rw[iS.l,ew];exact hT
      have sc:=fun {s:St} {o:Nat} (ho:s.aw[o]? = some (bC (.int .i64 r3.n) r3))=>yL (labels:=ls) hs oW AP (by rw[gV];exact jI) ho
      rw[gV]at sc
      have lk:=(nW j).2.2.1 _ _ _ hs
      refine CL.EE (@sc _ 0 (by with_unfolding_all rfl)) Ok.out ?_
      cases bJ:sv.2.good
      ·rw [kR bJ]
       cases j with
       |zero=>simp only[Rd.dI]at h;cases h
       |succ j=>
        simp only[Rd.dI,bJ,zaa,↓reduceIte]at h
        cases h
        simp only[Sm.b7,kR bJ]at hQ
        repeat' (first
 |simp only[go_sem,hC,hE,hF,hS,fw,bJ,Sm.e9]
 |(with_reducible refine CU (dm (by with_unfolding_all rfl)) ?_)
 |(with_reducible refine aV.gO ?_)
 |(with_reducible first|refine aX fun hc=>?_|refine aY fun hc=>?_|refine aZ (fun hc=>?_) fun hc=>?_)<;>(try simp only[hc,bs,↓reduceIte]at h)<;>try simp only[hc]
 |(with_reducible refine ay hQ ?_;simp only[bp,bq,bS,bT,go_sem,hC,hE,hF,hS,fw,bJ,Sm.e9];try exact cp))
      ·rw [pH bJ]
       have rf:(Sm.b7 true r1.n (out++ [{sv.1 with labels:=ls}])).2=sv.2.n:=by
        rw[Sm.eV,Sm.nE];dsimp only;rw[eU, ← gV];exact lk.n bJ
       repeat' (first
 |simp only[go_sem,hC,hE,hF,hS,fw,bJ,Sm.e9]
 | (with_reducible refine ay hQ ?_;exact aK))
       have AR:sv.2.l=r.l:=by rw[lk.l,iS.l];exact ew
       have hle:sv.2.n≤200:=lk.le bJ (by rw[gV];exact jI)
       rw[gV]at lk
       refine b9 1 1 ?_ ?_ (IH (j,_,_,out.length+1) ⟨h,by simp,by dsimp only;omega,bJ,AR,hle,rf⟩ (zac _))
       ·(simp only[go_sem,hC,hE,hF,hS,fw,bJ,eU,gV,Sm.eV,zag,zaf,zah];try exact aT)
       ·(simp only[go_sem,hC,hE,hF,hS,fw,bJ,eU,gV,Sm.eV,zag,zaf,zah];try exact aT)
    ·simp only [fj, ↓reduceIte]at h
     rw[zaY,zab]at h
     obtain⟨u,hu,h⟩:=h
     obtain⟨tg,rh⟩:=oI hu
     simp only[zam]at h
     cases uR:(u.kind==4 && u.text == [58])
     ·simp only [uR,zaa, ↓reduceIte]at h
      cases h
      dsimp only at hr
      replace h:=hr
      clear hr
      cases AS:u.kind==4
      ·repeat' (first
 |simp only[go_sem,hC,hE,hF,hS,fj,nj,rh,AS]
 |(rw[zab]at h;obtain⟨_,h1,h⟩:=h;first|(with_reducible refine CU (kN (oV h1 oW) (by with_unfolding_all rfl)) ?_))
 |(with_reducible refine CU (dm (by with_unfolding_all rfl)) ?_)
 |(with_reducible first|refine aX fun hc=>?_|refine aY fun hc=>?_|refine aZ (fun hc=>?_) fun hc=>?_)<;>(try simp only[hc,bs,↓reduceIte]at h)<;>try simp only[hc]
 |((with_reducible refine ay hQ ?_);(try cases h);simp only[bp,bq,bS,bT,go_sem,hC,hE,hF,hS,fj,nj,rh,AS];repeat' (first|exact Ok.out|with_reducible refine eJ ?_ ?_|(simp;done))))
       all_goals
        rw[zab]at h
        obtain⟨sv,hs,h⟩:=h
        rw[zab]at h
        obtain⟨o2,hp,h⟩:=h
        obtain⟨hF,rfl⟩:=dH hp
        have gV:r3.n=r2.n:=iS.n
        have AP:TW r3.l:=by rw[iS.l,ew];exact hT
        have sc:=fun {s:St} {o:Nat} (ho:s.aw[o]? = some (bC (.int .i64 r3.n) r3))=>yL (labels:=ls) hs oW AP (by rw[gV];exact jI) ho
        rw[gV]at sc
        have lk:=(nW j).2.2.1 _ _ _ hs
        refine CL.EE (@sc _ 0 (by with_unfolding_all rfl)) Ok.out ?_
        cases bJ:sv.2.good
        ·rw [kR bJ]
         cases j with
         |zero=>simp only[Rd.dI]at h;cases h
         |succ j=>
          simp only[Rd.dI,bJ,zaa,↓reduceIte]at h
          cases h
          simp only[Sm.b7,kR bJ]at hQ
          repeat' (first
 |simp only[go_sem,hC,hE,hF,hS,fw,bJ,Sm.e9]
 |(with_reducible refine CU (dm (by with_unfolding_all rfl)) ?_)
 |(with_reducible refine aV.gO ?_)
 |(with_reducible first|refine aX fun hc=>?_|refine aY fun hc=>?_|refine aZ (fun hc=>?_) fun hc=>?_)<;>(try simp only[hc,bs,↓reduceIte]at h)<;>try simp only[hc]
 |((with_reducible refine ay hQ ?_);(try cases h);simp only[bp,bq,bS,bT,go_sem,hC,hE,hF,hS,fw,bJ,Sm.e9];try exact cp))
        ·rw [pH bJ]
         have rf:(Sm.b7 true r1.n (out++ [{sv.1 with labels:=ls}])).2=sv.2.n:=by
          rw[Sm.eV,Sm.nE];dsimp only;rw[eU, ← gV];exact lk.n bJ
         repeat' (first
 |simp only[go_sem,hC,hE,hF,hS,fw,bJ,Sm.e9]
 |(with_reducible refine ay hQ ?_;exact aK))
         have AR:sv.2.l=r.l:=by rw[lk.l,iS.l];exact ew
         have hle:sv.2.n≤200:=lk.le bJ (by rw[gV];exact jI)
         rw[gV]at lk
         refine b9 1 1 ?_ ?_ (IH (j,_,_,out.length+1) ⟨h,by simp,by dsimp only;omega,bJ,AR,hle,rf⟩ (zac _))
         ·(simp only[go_sem,hC,hE,hF,hS,fw,bJ,eU,gV,Sm.eV,zag,zaf,zah];try exact aT)
         ·(simp only[go_sem,hC,hE,hF,hS,fw,bJ,eU,gV,Sm.eV,zag,zaf,zah];try exact aT)
      ·have Tc:(u.text == [58])=false:=by rw [AS,zbc]at uR;exact uR
       repeat' (first
 |simp only[go_sem,hC,hE,hF,hS,fj,nj,rh,AS,Tc]
 |(rw[zab]at h;obtain⟨_,h1,h⟩:=h;first|(with_reducible refine CU (kN (oV h1 oW) (by with_unfolding_all rfl)) ?_))
 |(with_reducible refine CU (dm (by with_unfolding_all rfl)) ?_)
 |(with_reducible first|refine aX fun hc=>?_|refine aY fun hc=>?_|refine aZ (fun hc=>?_) fun hc=>?_)<;>(try simp only[hc,bs,↓reduceIte]at h)<;>try simp only[hc]
 |((with_reducible refine ay hQ ?_);(try cases h);simp only[bp,bq,bS,bT,go_sem,hC,hE,hF,hS,fj,nj,rh,AS,Tc];repeat' (first|exact Ok.out|with_reducible refine eJ ?_ ?_|(simp;done))))
       all_goals
        rw[zab]at h
        obtain⟨sv,hs,h⟩:=h
        rw[zab]at h
        obtain⟨o2,hp,h⟩:=h
        obtain⟨hF,rfl⟩:=dH hp
        have gV:r3.n=r2.n:=iS.n
        have AP:TW r3.l:=by rw[iS.l,ew];exact hT
        have sc:=fun {s:St} {o:Nat} (ho:s.aw[o]? = some (bC (.int .i64 r3.n) r3))=>yL (labels:=ls) hs oW AP (by rw[gV];exact jI) ho
        rw[gV]at sc
        have lk:=(nW j).2.2.1 _ _ _ hs
        refine CL.EE (@sc _ 0 (by with_unfolding_all rfl)) Ok.out ?_
        cases bJ:sv.2.good
        ·rw [kR bJ]
         cases j with
         |zero=>simp only[Rd.dI]at h;cases h
         |succ j=>
          simp only[Rd.dI,bJ,zaa,↓reduceIte]at h
          cases h
          simp only[Sm.b7,kR bJ]at hQ
          repeat' (first
 |simp only[go_sem,hC,hE,hF,hS,fw,bJ,Sm.e9]
 |(with_reducible refine CU (dm (by with_unfolding_all rfl)) ?_)
 |(with_reducible refine aV.gO ?_)
 |(with_reducible first|refine aX fun hc=>?_|refine aY fun hc=>?_|refine aZ (fun hc=>?_) fun hc=>?_)<;>(try simp only[hc,bs,↓reduceIte]at h)<;>try simp only[hc]
 |((with_reducible refine ay hQ ?_);(try cases h);simp only[bp,bq,bS,bT,go_sem,hC,hE,hF,hS,fw,bJ,Sm.e9];try exact cp))
        ·rw [pH bJ]
         have rf:(Sm.b7 true r1.n (out++ [{sv.1 with labels:=ls}])).2=sv.2.n:=by
          rw[Sm.eV,Sm.nE];dsimp only;rw[eU, ← gV];exact lk.n bJ
         repeat' (first
 |simp only[go_sem,hC,hE,hF,hS,fw,bJ,Sm.e9]
 |(with_reducible refine ay hQ ?_;exact aK))
         have AR:sv.2.l=r.l:=by rw[lk.l,iS.l];exact ew
         have hle:sv.2.n≤200:=lk.le bJ (by rw[gV];exact jI)
         rw[gV]at lk
         refine b9 1 1 ?_ ?_ (IH (j,_,_,out.length+1) ⟨h,by simp,by dsimp only;omega,bJ,AR,hle,rf⟩ (zac _))
         ·(simp only[go_sem,hC,hE,hF,hS,fw,bJ,eU,gV,Sm.eV,zag,zaf,zah];try exact aT)
         ·(simp only[go_sem,hC,hE,hF,hS,fw,bJ,eU,gV,Sm.eV,zag,zaf,zah];try exact aT)
     ·simp only [uR, ↓reduceIte]at h
      rw[zab]at h
      obtain⟨ls2,hp,h⟩:=h
      obtain⟨hF,rfl⟩:=dH hp
      simp only[zaq]at uR
      have en:r3.name true=some (t.text,{r3 with i:=r3.i+1}):=by
       have e:(t.kind != 1)=false:=by simpa using fj
       simp only[Rd.name,ht,zam,oW,e,zan,zbz,zaa,↓reduceIte]
      have nm:=fun {z:D} [Cell z] {s:St} {o:Nat} (ho:s.aw[o]? = some (bC z r3))=>jr (room:=true) (full:=false) en rfl ho
      have py:IntKind.wrap .i64 (((r3.i+1:Nat):Int)+1)=((r3.i+2:Nat):Int):=az tg
      repeat' (first
 |simp only[go_sem,hC,hE,hF,hS,fj,rh,uR.1,uR.2,py]
 |(with_reducible refine CU (dm (by with_unfolding_all rfl)) ?_)
 |(with_reducible refine CU (nm (by with_unfolding_all rfl)) ?_)
 |(with_reducible first|refine aX fun hc=>?_|refine aY fun hc=>?_|refine aZ (fun hc=>?_) fun hc=>?_)<;>(try simp only[hc,bs,↓reduceIte]at h)<;>try simp only[hc]
 |(with_reducible refine ay hQ ?_;exact aK))
      refine b9 1 2 ?_ ?_ (DH (j2,_,{r3 with i:=r3.i+2},ls.length+1) ⟨h,by simp,iS.i _,oW⟩ (zac _))
      ·(simp only[go_sem,hC,hE,hF,hS,py,zag,zaf,zah];try exact aT)
      ·(simp only[go_sem,hC,hE,hF,hS,py,zag,zaf,zah];try exact aT)
theorem Td {m n:Nat} (stm : ∀ j<n,Bo m j) {k:Int} {z:D} [Cell z] {r:Rd} {p:(List Sm×List aB)×Rd} (h:Rd.rows m (n+1) k true r=some p) (hT:TW r.l)
 (hz:r.good=true→z = .int .i64 r.n) (hN:r.good=true→r.n≤200) :
 aC Tryz.prog 156 [.ptr 0 0, .int .i64 k, .bool true] ⟨[bC z r],[]⟩ (.tuple [.slice .shared 13 ((Sm.b7 true r.n p.1.1).1.map bn), .slice .shared 1 (p.1.2.map encStr)]) ⟨[bC (cN p.2) p.2],[]⟩:=by
 simp only[Rd.rows]at h
 have kw:=df.refl r
 cases hg:r.good
 ·cases n with
  |zero=>simp only[Rd.dI]at h;cases h
  |succ n=>
   simp only[Rd.dI,hg,zaa,↓reduceIte]at h
   cases h
   simp only[Sm.b7,kR hg]
   refine aC.go nA.h rfl fun B Q hB hQ=>?_
   have⟨hC,hE,hF,hS⟩:=bt
   repeat' (first
 |simp only[go_sem,hC,hE,hF,hS]
 |(with_reducible refine CU (dm (by with_unfolding_all rfl)) ?_)
 |(with_reducible refine aV.gO ?_)
 |(with_reducible first|refine aX fun hc=>?_|refine aY fun hc=>?_|refine aZ (fun hc=>?_) fun hc=>?_)<;>(try simp only[hc,bs,↓reduceIte]at h)<;>try simp only[hc]
 |(with_reducible refine ay hQ ?_;exact aK))
 ·have e:=hz hg
  subst e
  refine aC.go nA.h rfl fun B Q hB hQ=>?_
  have⟨hC,hE,hF,hS⟩:=bt
  repeat' (first
 |simp only[go_sem,hC,hE,hF,hS]
 | (with_reducible refine ay hQ ?_;exact aK))
  refine aV.gY 8 13 rfl ?_
  simp only[go_sem,hC,hE,hF,hS]
  refine b9 1 1 ?_ ?_ (aV.ind (ι:=Nat×List Sm×Rd×Nat) (fun i=>Rd.dI m i.1 k true i.2.1 i.2.2.1=some p∧i.2.2.2=i.2.1.length∧i.1≤n∧i.2.2.1.good=true∧i.2.2.1.l=r.l∧i.2.2.1.n≤200∧(Sm.b7 true r.n i.2.1).2=i.2.2.1.n) (fun i=>i.1)
   (fun i=> [(0, .ptr 0 0),(1, .int .i64 k),(2, .bool true),(8, .slice (.tok 0) 13 ((Sm.b7 true r.n i.2.1).1.map bn))]) (fun i=>⟨[bC (.int .i64 i.2.2.1.n) i.2.2.1],[some i.2.2.2]⟩) ?_ (n,[],r,0) ⟨h,rfl,zaj _,hg,kw.l,hN hg,rfl⟩)
  ·(simp only[go_sem,hC,hE,hF,hS,Sm.b7,zah];try exact aT)
  ·(simp only[go_sem,hC,hE,hF,hS,Sm.b7,zah];try exact aT)
  rintro⟨j,out,r2,kk⟩ ⟨h,hk,hj,ji,ew,jI,eU⟩ IH
  dsimp only at hk hj ji ew jI eU;subst hk
  cases j with
  |zero=>simp only[Rd.dI]at h;cases h
  |succ j=>
   have yL:=@stm j (by omega)
   simp only[Rd.dI,ji,↓reduceIte]at h
   rw[zab]at h
   obtain⟨l,h,hr⟩:=h
   repeat' (first
 |simp only[go_sem,hC,hE,hF,hS]
 |(with_reducible refine CU (dm (by with_unfolding_all rfl)) ?_)
 |(with_reducible first|refine aX fun hc=>?_|refine aY fun hc=>?_|refine aZ (fun hc=>?_) fun hc=>?_)<;>(try simp only[hc,bs,↓reduceIte]at h)<;>try simp only[hc]
 | (with_reducible refine ay hQ ?_;exact aK))
   refine aV.gY 9 1 rfl ?_
   simp only[go_sem,hC,hE,hF,hS]
   refine b9 1 2 ?_ ?_ (aV.ind (ι:=Nat×List aB×Rd×Nat) (fun i=>Rd.labels i.1 i.2.1 i.2.2.1=some l∧i.2.2.2=i.2.1.length∧df r2 i.2.2.1∧i.2.2.1.good=true) (fun i=>i.1)
    (fun i=> [(0, .ptr 0 0),(1, .int .i64 k),(2, .bool true),(8, .slice (.tok 0) 13 ((Sm.b7 true r.n out).1.map bn)),(9, .slice (.tok 1) 1 (i.2.1.map encStr))]) (fun i=>⟨[bC (.int .i64 r2.n) i.2.2.1],[some out.length,some i.2.2.2]⟩) ?_ (m,[],r2,0) ⟨h,rfl,df.refl _,ji⟩)
   ·(simp only[go_sem,hC,hE,hF,hS,zah];try exact aT)
   ·(simp only[go_sem,hC,hE,hF,hS,zah];try exact aT)
   rintro⟨j2,ls,r3,kk⟩ ⟨h,hk,iS,oW⟩ DH
   dsimp only at hk iS oW;subst hk
   cases j2 with
   |zero=>simp only[Rd.labels]at h;cases h
   | succ j2=>
    simp only[Rd.labels,Rd.ahead,oW,↓reduceIte]at h
    rw[zaY,zab]at h
    obtain⟨t,ht,h⟩:=h
    obtain⟨hC,hE,y7,y8⟩:=fh ht
    have nj:cN {r3 with i:=r3.i+1} = .int .i64 r2.n:=(pH (r:= {r3 with i:=r3.i+1}) oW).trans (congrArg (fun n:Nat=>D.int .i64 n) iS.n)
    simp only[ht,zam]at h
    cases fj:t.kind==1
    ·simp only [fj,zaa, ↓reduceIte,zam]at h
     cases h
     dsimp only at hr
     replace h:=hr
     clear hr
     repeat' (first
 |simp only[go_sem,hC,hE,hF,hS,fj,nj]
 |(rw[zab]at h;obtain⟨_,h1,h⟩:=h;first|(with_reducible refine CU (kN (oV h1 oW) (by with_unfolding_all rfl)) ?_))
 |(with_reducible refine CU (dm (by with_unfolding_all rfl)) ?_)
 |(with_reducible first|refine aX fun hc=>?_|refine aY fun hc=>?_|refine aZ (fun hc=>?_) fun hc=>?_)<;>(try simp only[hc,bs,↓reduceIte]at h)<;>try simp only[hc]
 |((with_reducible refine ay hQ ?_);(try cases h);simp only[bp,bq,bS,bT,go_sem,hC,hE,hF,hS,fj,nj];repeat' (first|exact Ok.out|with_reducible refine eJ ?_ ?_|(simp;done))))
     all_goals
      rw[zab]at h
      obtain⟨sv,hs,h⟩:=h
      rw[zab]at h
      obtain⟨o2,hp,h⟩:=h
      obtain⟨hF,rfl⟩:=dH hp
      have gV:r3.n=r2.n:=iS.n
      have AP:TW r3.l:=by rw[iS.l,ew];exact hT
      have sc:=fun {s:St} {o:Nat} (ho:s.aw[o]? = some (bC (.int .i64 r3.n) r3))=>yL (labels:=ls) hs oW AP (by rw[gV];exact jI) ho
      rw[gV]at sc
      have lk:=(nW j).2.2.1 _ _ _ hs
      refine CL.EE (@sc _ 0 (by with_unfolding_all rfl)) Ok.out ?_
      cases bJ:sv.2.good
      ·rw [kR bJ]
       cases j with
       |zero=>simp only[Rd.dI]at h;cases h
       |succ j=>
        simp only[Rd.dI,bJ,zaa,↓reduceIte]at h
        cases h
        simp only[Sm.b7,kR bJ]at hQ
        repeat' (first
 |simp only[go_sem,hC,hE,hF,hS,fw,bJ,Sm.e9]
 |(with_reducible refine CU (dm (by with_unfolding_all rfl)) ?_)
 |(with_reducible refine aV.gO ?_)
 |(with_reducible first|refine aX fun hc=>?_|refine aY fun hc=>?_|refine aZ (fun hc=>?_) fun hc=>?_)<;>(try simp only[hc,bs,↓reduceIte]at h)<;>try simp only[hc]
 |(with_reducible refine ay hQ ?_;simp only[bp,bq,bS,bT,go_sem,hC,hE,hF,hS,fw,bJ,Sm.e9];try exact cp))
      ·rw [pH bJ]
       have rf:(Sm.b7 true r.n (out++ [{sv.1 with labels:=ls}])).2=sv.2.n:=by
        rw[Sm.eV,Sm.nE];dsimp only;rw[eU, ← gV];exact lk.n bJ
       repeat' (first
 |simp only[go_sem,hC,hE,hF,hS,fw,bJ,Sm.e9]
 | (with_reducible refine ay hQ ?_;exact aK))
       have AR:sv.2.l=r.l:=by rw[lk.l,iS.l];exact ew
       have hle:sv.2.n≤200:=lk.le bJ (by rw[gV];exact jI)
       rw[gV]at lk
       refine b9 1 1 ?_ ?_ (IH (j,_,_,out.length+1) ⟨h,by simp,by dsimp only;omega,bJ,AR,hle,rf⟩ (zac _))
       ·(simp only[go_sem,hC,hE,hF,hS,fw,bJ,eU,gV,Sm.eV,zag,zaf,zah];try exact aT)
       ·(simp only[go_sem,hC,hE,hF,hS,fw,bJ,eU,gV,Sm.eV,zag,zaf,zah];try exact aT)
    ·simp only [fj, ↓reduceIte]at h
     rw[zaY,zab]at h
     obtain⟨u,hu,h⟩:=h
     obtain⟨tg,rh⟩:=oI hu
     simp only[zam]at h
     cases uR:(u.kind==4 && u.text == [58])
     ·simp only [uR,zaa, ↓reduceIte]at h
      cases h
      dsimp only at hr
      replace h:=hr
      clear hr
      cases AS:u.kind==4
      ·repeat' (first
 |simp only[go_sem,hC,hE,hF,hS,fj,nj,rh,AS]
 |(rw[zab]at h;obtain⟨_,h1,h⟩:=h;first|(with_reducible refine CU (kN (oV h1 oW) (by with_unfolding_all rfl)) ?_))
 |(with_reducible refine CU (dm (by with_unfolding_all rfl)) ?_)
 |(with_reducible first|refine aX fun hc=>?_|refine aY fun hc=>?_|refine aZ (fun hc=>?_) fun hc=>?_)<;>(try simp only[hc,bs,↓reduceIte]at h)<;>try simp only[hc]
 |((with_reducible refine ay hQ ?_);(try cases h);simp only[bp,bq,bS,bT,go_sem,hC,hE,hF,hS,fj,nj,rh,AS];repeat' (first|exact Ok.out|with_reducible refine eJ ?_ ?_|(simp;done))))
       all_goals
        rw[zab]at h
        obtain⟨sv,hs,h⟩:=h
        rw[zab]at h
        obtain⟨o2,hp,h⟩:=h
        obtain⟨hF,rfl⟩:=dH hp
        have gV:r3.n=r2.n:=iS.n
        have AP:TW r3.l:=by rw[iS.l,ew];exact hT
        have sc:=fun {s:St} {o:Nat} (ho:s.aw[o]? = some (bC (.int .i64 r3.n) r3))=>yL (labels:=ls) hs oW AP (by rw[gV];exact jI) ho
        rw[gV]at sc
        have lk:=(nW j).2.2.1 _ _ _ hs
        refine CL.EE (@sc _ 0 (by with_unfolding_all rfl)) Ok.out ?_
        cases bJ:sv.2.good
        ·rw [kR bJ]
         cases j with
         |zero=>simp only[Rd.dI]at h;cases h
         |succ j=>
          simp only[Rd.dI,bJ,zaa,↓reduceIte]at h
          cases h
          simp only[Sm.b7,kR bJ]at hQ
          repeat' (first
 |simp only[go_sem,hC,hE,hF,hS,fw,bJ,Sm.e9]
 |(with_reducible refine CU (dm (by with_unfolding_all rfl)) ?_)
 |(with_reducible refine aV.gO ?_)
 |(with_reducible first|refine aX fun hc=>?_|refine aY fun hc=>?_|refine aZ (fun hc=>?_) fun hc=>?_)<;>(try simp only[hc,bs,↓reduceIte]at h)<;>try simp only[hc]
 |((with_reducible refine ay hQ ?_);(try cases h);simp only[bp,bq,bS,bT,go_sem,hC,hE,hF,hS,fw,bJ,Sm.e9];try exact cp))
        ·rw [pH bJ]
         have rf:(Sm.b7 true r.n (out++ [{sv.1 with labels:=ls}])).2=sv.2.n:=by
          rw[Sm.eV,Sm.nE];dsimp only;rw[eU, ← gV];exact lk.n bJ
         repeat' (first
 |simp only[go_sem,hC,hE,hF,hS,fw,bJ,Sm.e9]
 |(with_reducible refine ay hQ ?_;exact aK))
         have AR:sv.2.l=r.l:=by rw[lk.l,iS.l];exact ew
         have hle:sv.2.n≤200:=lk.le bJ (by rw[gV];exact jI)
         rw[gV]at lk
         refine b9 1 1 ?_ ?_ (IH (j,_,_,out.length+1) ⟨h,by simp,by dsimp only;omega,bJ,AR,hle,rf⟩ (zac _))
         ·(simp only[go_sem,hC,hE,hF,hS,fw,bJ,eU,gV,Sm.eV,zag,zaf,zah];try exact aT)
         ·(simp only[go_sem,hC,hE,hF,hS,fw,bJ,eU,gV,Sm.eV,zag,zaf,zah];try exact aT)
      ·have Tc:(u.text == [58])=false:=by rw [AS,zbc]at uR;exact uR
       repeat' (first
 |simp only[go_sem,hC,hE,hF,hS,fj,nj,rh,AS,Tc]
 |(rw[zab]at h;obtain⟨_,h1,h⟩:=h;first|(with_reducible refine CU (kN (oV h1 oW) (by with_unfolding_all rfl)) ?_))
 |(with_reducible refine CU (dm (by with_unfolding_all rfl)) ?_)
 |(with_reducible first|refine aX fun hc=>?_|refine aY fun hc=>?_|refine aZ (fun hc=>?_) fun hc=>?_)<;>(try simp only[hc,bs,↓reduceIte]at h)<;>try simp only[hc]
 |((with_reducible refine ay hQ ?_);(try cases h);simp only[bp,bq,bS,bT,go_sem,hC,hE,hF,hS,fj,nj,rh,AS,Tc];repeat' (first|exact Ok.out|with_reducible refine eJ ?_ ?_|(simp;done))))
       all_goals
        rw[zab]at h
        obtain⟨sv,hs,h⟩:=h
        rw[zab]at h
        obtain⟨o2,hp,h⟩:=h
        obtain⟨hF,rfl⟩:=dH hp
        have gV:r3.n=r2.n:=iS.n
        have AP:TW r3.l:=by rw[iS.l,ew];exact hT
        have sc:=fun {s:St} {o:Nat} (ho:s.aw[o]? = some (bC (.int .i64 r3.n) r3))=>yL (labels:=ls) hs oW AP (by rw[gV];exact jI) ho
        rw[gV]at sc
        have lk:=(nW j).2.2.1 _ _ _ hs
        refine CL.EE (@sc _ 0 (by with_unfolding_all rfl)) Ok.out ?_
        cases bJ:sv.2.good
        ·rw [kR bJ]
         cases j with
         |zero=>simp only[Rd.dI]at h;cases h
         |succ j=>
          simp only[Rd.dI,bJ,zaa,↓reduceIte]at h
          cases h
          simp only[Sm.b7,kR bJ]at hQ
          repeat' (first
 |simp only[go_sem,hC,hE,hF,hS,fw,bJ,Sm.e9]
 |(with_reducible refine CU (dm (by with_unfolding_all rfl)) ?_)
 |(with_reducible refine aV.gO ?_)
 |(with_reducible first|refine aX fun hc=>?_|refine aY fun hc=>?_|refine aZ (fun hc=>?_) fun hc=>?_)<;>(try simp only[hc,bs,↓reduceIte]at h)<;>try simp only[hc]
 |((with_reducible refine ay hQ ?_);(try cases h);simp only[bp,bq,bS,bT,go_sem,hC,hE,hF,hS,fw,bJ,Sm.e9];try exact cp))
        ·rw [pH bJ]
         have rf:(Sm.b7 true r.n (out++ [{sv.1 with labels:=ls}])).2=sv.2.n:=by
          rw[Sm.eV,Sm.nE];dsimp only;rw[eU, ← gV];exact lk.n bJ
         repeat' (first
 |simp only[go_sem,hC,hE,hF,hS,fw,bJ,Sm.e9]
 |(with_reducible refine ay hQ ?_;exact aK))
         have AR:sv.2.l=r.l:=by rw[lk.l,iS.l];exact ew
         have hle:sv.2.n≤200:=lk.le bJ (by rw[gV];exact jI)
         rw[gV]at lk
         refine b9 1 1 ?_ ?_ (IH (j,_,_,out.length+1) ⟨h,by simp,by dsimp only;omega,bJ,AR,hle,rf⟩ (zac _))
         ·(simp only[go_sem,hC,hE,hF,hS,fw,bJ,eU,gV,Sm.eV,zag,zaf,zah];try exact aT)
         ·(simp only[go_sem,hC,hE,hF,hS,fw,bJ,eU,gV,Sm.eV,zag,zaf,zah];try exact aT)
     ·simp only [uR, ↓reduceIte]at h
      rw[zab]at h
      obtain⟨ls2,hp,h⟩:=h
      obtain⟨hF,rfl⟩:=dH hp
      simp only[zaq]at uR
      have en:r3.name true=some (t.text,{r3 with i:=r3.i+1}):=by
       have e:(t.kind != 1)=false:=by simpa using fj
       simp only[Rd.name,ht,zam,oW,e,zan,zbz,zaa,↓reduceIte]
      have nm:=fun {z:D} [Cell z] {s:St} {o:Nat} (ho:s.aw[o]? = some (bC z r3))=>jr (room:=true) (full:=false) en rfl ho
      have py:IntKind.wrap .i64 (((r3.i+1:Nat):Int)+1)=((r3.i+2:Nat):Int):=az tg
      repeat' (first
 |simp only[go_sem,hC,hE,hF,hS,fj,rh,uR.1,uR.2,py]
 |(with_reducible refine CU (dm (by with_unfolding_all rfl)) ?_)
 |(with_reducible refine CU (nm (by with_unfolding_all rfl)) ?_)
 |(with_reducible first|refine aX fun hc=>?_|refine aY fun hc=>?_|refine aZ (fun hc=>?_) fun hc=>?_)<;>(try simp only[hc,bs,↓reduceIte]at h)<;>try simp only[hc]
 |(with_reducible refine ay hQ ?_;exact aK))
      refine b9 1 2 ?_ ?_ (DH (j2,_,{r3 with i:=r3.i+2},ls.length+1) ⟨h,by simp,iS.i _,oW⟩ (zac _))
      ·(simp only[go_sem,hC,hE,hF,hS,py,zag,zaf,zah];try exact aT)
      ·(simp only[go_sem,hC,hE,hF,hS,py,zag,zaf,zah];try exact aT)
end Go.Abs
namespace Go.Abs
set_option maxRecDepth 8000
set_option maxHeartbeats 4000000
open Go.Proofs
theorem afC (m:Nat) : ∀ n,S5 m n∧Bo m n:=by
 intro n
 induction n using Nat.strongRecOn with
 | ind n ih=>
  refine⟨?_, ?_⟩
  ·cases n with
   |zero=>intro k z _ r r1 p h1 h;simp only[Rd.rows]at h;cases h
   |succ n=>
    intro k z _ r r1 p h1 h hT hz hN s o ho
    exact aC.fy (PR (fun j hj=>(ih j (by omega)).2) h1 h hT hz hN) rfl (gI _ r) (gI _ p.2) (by simp[D.ok,D.bP,lz,da,Tag.ok]) ho
  ·cases n with
   |zero=>intro nest labels r p h;simp only[Rd.stmt]at h;cases h
   |succ n=>exact PO fun j hj=>(ih j (by omega)).1
theorem aaj {m n:Nat} {k:Int} {z:D} [Cell z] {r:Rd} {p:(List Sm×List aB)×Rd} (h:Rd.rows m n k true r=some p) (hT:TW r.l) (hz:r.good=true→z = .int .i64 r.n) (hN:r.good=true→r.n≤200)
 {s:St} {o:Nat} (ho:s.aw[o]? = some (bC z r)) :
 aC Tryz.prog 156 [.ptr o 0, .int .i64 k, .bool true] s (.tuple [.slice .shared 13 ((Sm.b7 true r.n p.1.1).1.map bn), .slice .shared 1 (p.1.2.map encStr)]) ⟨s.aw.set o (bC (cN p.2) p.2),s.aE⟩:=by
 cases n with
 |zero=>simp only[Rd.rows]at h;cases h
 |succ n=>exact aC.fy (Td (fun j _=>(afC m j).2) h hT hz hN) rfl (gI _ r) (gI _ p.2) (by simp[D.ok,D.bP,lz,da,Tag.ok]) ho
theorem Mj {z:D} [Cell z] {n:Nat} {l:List aB} {dk:Int} {r:Rd} {p:List aB×Rd} (h:Rd.names n l dk r=some p) (hg:r.good=true) {s:St} {o t:Nat} (ho:s.aw[o]? = some (bC z r)) (ht:s.aE[t]? = some (some l.length)) :
 aC Tryz.prog 109 [.ptr o 0, .slice (.tok t) 1 (l.map encStr), .int .i64 dk] s (.slice (.tok t) 1 (p.1.map encStr)) ⟨s.aw.set o (bC z p.2),s.aE.set t (some p.1.length)⟩:=
 (aaf h hg).XX rfl (gI z r) (gI z p.2) (da l) (da p.1) ho ht
theorem Te {r:Rd} {room:Bool} {p:aB×Rd} (h:r.name room=some p) (hg:p.2.good=true):room=true:=by
 unfold Rd.name at h
 rw[zab]at h
 obtain⟨t,h1,h⟩:=h
 split at h
 ·rw [zab]at h
  obtain⟨r',h2,h⟩:=h
  have:=(vY r (by decide) _ h2).2
  cases h
  rw[this]at hg;cases hg
 ·cases room
  ·simp only [zao, ↓reduceIte]at h
   rw[zab]at h
   obtain⟨r',h2,h⟩:=h
   have:=(vY r (by decide) _ h2).2
   cases h
   rw[this]at hg;cases hg
  ·rfl
theorem Tf {r:Rd} (hg:r.good=false) (room:Bool) {t:bN} (ht:r.fA=some t):r.name room=some ([],r):=by
 simp only[Rd.name,ht,zam,hg,zao,za6,↓reduceIte,Yt hg]
def Rd.PS (m:Nat) (r:Rd):Option (Pc×Rd):=
 (r.name true).bind fun x=>(x.2.want [40]).bind fun r=>(r.take [41]).bind fun q=>
  if q.1 then(q.2.want [123]).bind fun r=>Rd.jB m x.1 [] r
  else if q.2.good then(Rd.params m [] q.2).bind fun y=>(y.2.want [41]).bind fun r=>(r.want [123]).bind fun r=>Rd.jB m x.1 y.1 r
  else Rd.jB m x.1 [] q.2
theorem adK {m:Nat} {r:Rd} {p:Pc×Rd} (h:Rd.proc m r=some p):Rd.PS m r=some p:=by
 unfold Rd.proc Rd.other at h
 unfold Rd.PS
 rw[zab]at h
 obtain⟨x,h1,h⟩:=h
 rw[h1,zam]
 rw[zab]at h
 obtain⟨r1,h2,h⟩:=h
 rw[h2,zam]
 cases hg:r1.good
 ·simp only [hg,zaa, ↓reduceIte,zam,uQ hg]at h
  simp only[xX hg,zam,hg,zaa,↓reduceIte]
  exact h
 ·simp only [hg, ↓reduceIte]at h
  rw[zaY,zab]at h
  obtain⟨c,h3,h⟩:=h
  cases c
  ·have ht:r1.take [41] = some (false,r1):=by simp [Rd.take,hg,h3]
   simp only[zao,zam,↓reduceIte]at h
   simp only[ht,zam,zaa,↓reduceIte,hg]
   exact h
  ·have ht:r1.take [41] = some (true,{r1 with i:=r1.i+1}):=by simp [Rd.take,hg,h3]
   simp only[zan,zam,zaa,↓reduceIte,Rd.want,ht]at h
   simp only[ht,zam,↓reduceIte]
   exact h
theorem PT {m:Nat} {z:D} [Cell z] {B:eQ} {Q:Exit→Tm→St→Prop} {row:List D} {name:aB} {p:Pc×Rd} {n0:Nat} (hB:B.s = ⟨[row],[]⟩)
 (hQ:gZ 1 0 [(2,some (true,5))] (.agg (cf {p.1 with body:=(Sm.b7 true n0 p.1.body).1})) ⟨[bC (cN p.2) p.2],[]⟩=Q)
 (ps:List Pm) (r:Rd) (h:Rd.jB m name ps r=some p) (hT:TW r.l) (hz:r.good=true→z = .int .i64 r.n) (hN:r.good=true→r.n≤200) (hn:r.n=n0) :
 aV Tryz.prog B 85 Q0A (ij 2 (kn (fZ Tryz.prog B 85 Q0B Q) Q)) [(0, .ptr 0 0),(2, .ptr 1 0),(3, .ptr 2 0)]
  ⟨[bC z r,[.str [], .slice .full 0 [], .slice .full 0 [], .slice .full 0 [], .slice .full 0 []],[.str name, .slice .shared 2 (ps.map eH), .slice .full 0 [], .slice .full 0 [], .slice .full 0 []]],[]⟩:=by
 have⟨hC,hE,hF,hS⟩:=bt
 unfold Rd.jB at h
 rw[zab]at h
 obtain⟨q,h,hr⟩:=h
 rw[zab]at hr
 obtain⟨b,hb,hr⟩:=hr
 cases hr
 refine aV.qa 2 2 1 rfl rfl ?_
 simp only[go_sem,hC,hE,hF,hS]
 refine b8 3 1 (aV.ind (ι:=Nat×List aB×Rd×Nat) (fun i=>Rd.vars m i.1 i.2.1 i.2.2.1=some q∧i.2.2.2=i.2.1.length∧df r i.2.2.1) (fun i=>i.1)
  (fun i=> [(0, .ptr 0 0),(2, .ptr 1 0),(3, .ptr 2 0)]) (fun i=>⟨[bC z i.2.2.1,[.str [], .slice .full 0 [], .slice .full 0 [], .slice .full 0 [], .slice .full 0 []],[.str name, .slice .shared 2 (ps.map eH), .slice (.tok 0) 1 (i.2.1.map encStr), .slice .full 0 [], .slice .full 0 []]],[some i.2.2.2]⟩) ?_ (m,[],r,0) ⟨h,rfl,df.refl r⟩)
 rintro⟨n,l,r2,k⟩ ⟨h,hk,iS⟩ IH
 dsimp only at hk iS;subst hk
 cases n with
 |zero=>simp only[Rd.vars]at h;cases h
 | succ n=>
  simp only[Rd.vars]at h
  rw[zab]at h
  obtain⟨c,hc,h⟩:=h
  have kc:=ie iS _ _ hc
  have tk:=fun {z:D} [Cell z] {s:St} {o:Nat} (ho:s.aw[o]? = some (bC z r2))=>gN hc ho
  cases gS:c.1
  ·simp only [gS,zaa, ↓reduceIte]at h
   cases h
   have bd:=fun {s:St} {o:Nat} (ho:s.aw[o]? = some (bC z c.2))=>aaj (z:=z) hb (by rw[kc.l];exact hT) (fun g=>by rw[kc.n];exact hz (kc.g g)) (fun g=>by rw[kc.n];exact hN (kc.g g)) ho
   have e:c.2.n=n0:=kc.n.trans hn
   dsimp only at bd
   rw[e]at bd
   repeat' (first
 |simp only[go_sem,hC,hE,hF,hS,gS]
 |(with_reducible refine CU (tk (by with_unfolding_all rfl)) ?_)
 |(with_reducible refine CU (bd (by with_unfolding_all rfl)) ?_)
 | (with_reducible refine ay hQ ?_;exact aK))
  ·simp only [gS, ↓reduceIte]at h
   have Se:=(qt hc gS).1
   rw[zab]at h
   obtain⟨x,hx,h⟩:=h
   have ls:=fun {s:St} {o t:Nat} (ho:s.aw[o]? = some (bC z c.2)) (ht:s.aE[t]? = some (some l.length))=>Mj hx Se ho ht
   repeat' (first
 |simp only[go_sem,hC,hE,hF,hS,gS]
 |(with_reducible refine CU (tk (by with_unfolding_all rfl)) ?_)
 |(with_reducible refine CU (ls (by with_unfolding_all rfl) (by with_unfolding_all rfl)) ?_)
 | (with_reducible refine ay hQ ?_;exact aK))
   refine b8 3 1 (IH (n,_,_,_) ⟨h,rfl,xY _ _ _ kc _ hx⟩ (zac _))
set_option maxHeartbeats 2000000 in
theorem aak {m : Nat} {z : D} [Cell z] {r : Rd} {p : Pc × Rd} (h : Rd.proc m r = some p) (hT : TW r.l) (hz : r.good = true → z = .int .i64 r.n) (hN : r.good = true → r.n ≤ 200) :
   aC Tryz.prog 114 [.ptr 0 0] ⟨[bC z r], []⟩ (.agg (cf { p.1 with body := (Sm.b7 true r.n p.1.body).1 })) ⟨[bC (cN p.2) p.2], []⟩ := by
 replace h := adK h
 unfold Rd.PS at h
 rw[zab]at h
 obtain ⟨x, hx, h⟩ := h
 have kx := nR (df.refl r) _ _ hx
 rw[zab]at h
 obtain ⟨r1, h1, h⟩ := h
 have k1 := dS kx _ _ h1
 rw[zab]at h
 obtain ⟨q, hq, h⟩ := h
 have kq := ie k1 _ _ hq
 have fin : ∀ {r2 : Rd} {ps : List Pm}, df r r2 → Rd.jB m x.1 ps r2 = some p → ∀ {B : eQ} {Q : Exit → Tm → St → Prop} {row : List D}, B.s = ⟨[row], []⟩ →
     gZ 1 0 [(2, some (true, 5))] (.agg (cf { p.1 with body := (Sm.b7 true r.n p.1.body).1 })) ⟨[bC (cN p.2) p.2], []⟩ = Q →
     aV Tryz.prog B 85 Q0A (ij 2 (kn (fZ Tryz.prog B 85 Q0B Q) Q)) [(0, .ptr 0 0), (2, .ptr 1 0), (3, .ptr 2 0)]
       ⟨[bC z r2, [.str [], .slice .full 0 [], .slice .full 0 [], .slice .full 0 [], .slice .full 0 []], [.str x.1, .slice .shared 2 (ps.map eH), .slice .full 0 [], .slice .full 0 [], .slice .full 0 []]], []⟩ :=
   by
   intro r2 ps k hp B Q row hB hQ
   exact PT hB hQ _ _ hp (by rw[k.l]; exact hT) (fun g => by rw[k.n]; exact hz (k.g g)) (fun g => by rw[k.n]; exact hN (k.g g)) k.n
 have nm := fun {z : D} [Cell z] {s : St} {o : Nat} (ho : s.aw[o]? = some (bC z r)) => jr (full := false) hx rfl ho
 have wa := fun {z : D} [Cell z] {s : St} {o : Nat} (ho : s.aw[o]? = some (bC z x.2)) => fY h1 ho
 have tk := fun {z : D} [Cell z] {s : St} {o : Nat} (ho : s.aw[o]? = some (bC z r1)) => gN hq ho
 cases qs : q.1
 · simp only [qs, zaa, ↓reduceIte] at h
   cases hg : q.2.good
   · simp only [hg, zaa, ↓reduceIte] at h
     have wf := fun (w : aB) {s : St} {o : Nat} (ho : s.aw[o]? = some (bC z q.2)) => fY (uQ hg w) ho
     refine aC.go lV.h rfl fun B Q hB hQ =>?_
     have ⟨hC, hE, hF, hS⟩ := bt
     repeat' (first
 |simp only[go_sem, hC, hE, hF, hS, qs]
 |(with_reducible refine CU (nm (by with_unfolding_all rfl)) ?_)
 |(with_reducible refine CU (wa (by with_unfolding_all rfl)) ?_)
 |(with_reducible refine CU (tk (by with_unfolding_all rfl)) ?_)
 |(with_reducible refine ay hQ ?_; exact aK))
     refine aV.gO ?_
     repeat' (first
 |simp only[go_sem, hC, hE, hF, hS, hg]
 |(with_reducible refine CU (dm (by with_unfolding_all rfl)) ?_)
 |(with_reducible refine CU (wf _ (by with_unfolding_all rfl)) ?_)
 | (with_reducible refine ay hQ ?_; exact aK))
     refine b8 3 0 (fin (ps := []) kq h hB hQ)
   · simp only [hg, ↓reduceIte] at h
     refine aC.go lV.h rfl fun B Q hB hQ =>?_
     have ⟨hC, hE, hF, hS⟩ := bt
     rw[zab]at h
     obtain ⟨y, hy, h⟩ := h
     rw[zab]at h
     obtain ⟨r3, h3, h⟩ := h
     rw[zab]at h
     obtain ⟨r4, h4, h⟩ := h
     have wb := fun {z : D} [Cell z] {s : St} {o : Nat} (ho : s.aw[o]? = some (bC z y.2)) => fY h3 ho
     have wc := fun {z : D} [Cell z] {s : St} {o : Nat} (ho : s.aw[o]? = some (bC z r3)) => fY h4 ho
     repeat' (first
 |simp only[go_sem, hC, hE, hF, hS, qs]
 |(with_reducible refine CU (nm (by with_unfolding_all rfl)) ?_)
 |(with_reducible refine CU (wa (by with_unfolding_all rfl)) ?_)
 |(with_reducible refine CU (tk (by with_unfolding_all rfl)) ?_)
 |(with_reducible refine ay hQ ?_; exact aK))
     refine aV.qa 2 1 2 rfl rfl ?_
     simp only[go_sem, hC, hE, hF, hS]
     refine b8 3 1 (aV.ind (ι := Nat × List Pm × Rd × Nat) (fun i => Rd.params i.1 i.2.1 i.2.2.1 = some y ∧ i.2.2.2 = i.2.1.length ∧ df r i.2.2.1 ∧ i.2.2.1.good = true ∧ i.2.1.length ≤ 8) (fun i => i.1)
       (fun i => [(0, .ptr 0 0), (2, .ptr 1 0), (3, .ptr 2 0)]) (fun i => ⟨[bC z i.2.2.1, [.str [], .slice .full 0 [], .slice .full 0 [], .slice .full 0 [], .slice .full 0 []], [.str x.1, .slice (.tok 0) 2 (i.2.1.map eH), .slice .full 0 [], .slice .full 0 [], .slice .full 0 []]], [some i.2.2.2]⟩) ?_ (m, [], q.2, 0) ⟨hy, rfl, kq, hg, zau _⟩)
     rintro ⟨n, l, r2, k⟩ ⟨hy, hk, iS, ji, hlen⟩ IH
     dsimp only at hk iS ji hlen; subst hk
     cases n with
     |zero => simp only[Rd.params]at hy; cases hy
     | succ n =>
       simp only[Rd.params, ji,↓reduceIte]at hy
       rw[zab]at hy
       obtain ⟨q2, g1, hy⟩ := hy
       rw[zab]at hy
       obtain ⟨x2, g2, hy⟩ := hy
       rw[zab]at hy
       obtain ⟨l2, g3, hy⟩ := hy
       rw[zab]at hy
       obtain ⟨c2, g4, hy⟩ := hy
       obtain ⟨hF, rfl⟩ := dH g3
       have kq2 := ie iS _ _ g1
       have kx2 := nR kq2 _ _ g2
       have Tg := ie kx2 _ _ g4
       have e8 : ((l.length : Int) == 8) = !decide ((l.length : Int) < 8) := by
         by_cases h8 : l.length = 8
         · simp[h8]
         · have : l.length < 8 := by omega
           have a : ((l.length : Int) == 8) = false := by simp; omega
           have b : decide ((l.length : Int) < 8) = true := by simp; omega
           rw[a, b]; rfl
       have JY := fun {z : D} [Cell z] {s : St} {o : Nat} (ho : s.aw[o]? = some (bC z r2)) => gN g1 ho
       have Ee := fun {z : D} [Cell z] {s : St} {o : Nat} (ho : s.aw[o]? = some (bC z q2.2)) => jr (full := (l.length : Int) == 8) g2 e8 ho
       have JZ := fun {z : D} [Cell z] {s : St} {o : Nat} (ho : s.aw[o]? = some (bC z x2.2)) => gN g4 ho
       have Ef := g1
       unfold Rd.take at Ef
       simp only[ji, zan, zaa,↓reduceIte]at Ef
       rw[zab]at Ef
       obtain ⟨b, hb, Ef⟩ := Ef
       have xZ := fun {z : D} [Cell z] {s : St} {o : Nat} (ho : s.aw[o]? = some (bC z r2)) => kN (oV hb ji) ho
       unfold Rd.is at hb
       rw[zab]at hb
       obtain ⟨t, ht, hb⟩ := hb
       obtain ⟨hC, hE, y7, y8⟩ := fh ht
       have mE := fun (hc : c2.1 = true) (hn : Rd.params n (l ++ [⟨x2.1, q2.1⟩]) c2.2 = some y) => IH (n, _, c2.2, l.length + 1) ⟨hn, by simp, Tg, (qt g4 hc).1, by
         have := Te g2 (qt g4 hc).2
         simp only[decide_eq_true_eq]at this
         simp; omega⟩ (zac _)
       cases b
       · simp only [zao, ↓reduceIte, Option.some.injEq] at Ef
         subst Ef
         cases fj : t.kind == 1
         · cases gS : c2.1
           · simp only [gS, zao, ↓reduceIte] at hy
             cases hy
             repeat' (first
 |simp only[go_sem, hC, hE, hF, hS, fj, gS]
 |(with_reducible refine CU (dm (by with_unfolding_all rfl)) ?_)
 |(with_reducible refine CU (xZ (by with_unfolding_all rfl)) ?_)
 |(with_reducible refine CU (JY (by with_unfolding_all rfl)) ?_)
 |(with_reducible refine CU (Ee (by with_unfolding_all rfl)) ?_)
 |(with_reducible refine CU (JZ (by with_unfolding_all rfl)) ?_)
 |(with_reducible refine CU (wb (by with_unfolding_all rfl)) ?_)
 |(with_reducible refine CU (wc (by with_unfolding_all rfl)) ?_)
 |(with_reducible first|refine aX fun hc =>?_|refine aY fun hc =>?_|refine aZ (fun hc =>?_) fun hc =>?_)<;>(try simp only[hc, bs,↓reduceIte]at h)<;>try simp only[hc]
 |(with_reducible refine ay hQ ?_; simp only[bp, bq, bS, bT, go_sem, hC, hE, hF, hS]; repeat' (first|exact Ok.out|with_reducible refine eJ ?_ ?_|(simp; done))))
             all_goals
               refine b9 3 0 ?_ ?_ (fin (dS (dS Tg _ _ h3) _ _ h4) h hB hQ)
               · (simp only[go_sem, hC, hE, hF, hS, zag, zaf, zah]; try exact aT)
               · (simp only[go_sem, hC, hE, hF, hS, zag, zaf, zah]; try exact aT)
           · simp only [gS, zan, zaa, ↓reduceIte] at hy
             repeat' (first
 |simp only[go_sem, hC, hE, hF, hS, fj, gS]
 |(with_reducible refine CU (dm (by with_unfolding_all rfl)) ?_)
 |(with_reducible refine CU (xZ (by with_unfolding_all rfl)) ?_)
 |(with_reducible refine CU (JY (by with_unfolding_all rfl)) ?_)
 |(with_reducible refine CU (Ee (by with_unfolding_all rfl)) ?_)
 |(with_reducible refine CU (JZ (by with_unfolding_all rfl)) ?_)
 |(with_reducible first|refine aX fun hc =>?_|refine aY fun hc =>?_|refine aZ (fun hc =>?_) fun hc =>?_)<;>(try simp only[hc, bs,↓reduceIte]at h)<;>try simp only[hc]
 |(with_reducible refine ay hQ ?_; simp only[bp, bq, bS, bT, go_sem, hC, hE, hF, hS]; repeat' (first|exact Ok.out|with_reducible refine eJ ?_ ?_|(simp; done))))
             all_goals
               refine b9 3 1 ?_ ?_ (mE gS hy)
               · (simp only[go_sem, hC, hE, hF, hS, zag, zaf, zah]; try exact aT)
               · (simp only[go_sem, hC, hE, hF, hS, zag, zaf, zah]; try exact aT)
         · cases h8 : ((l.length : Int) == 8)
           · rw [h8] at Ee
             cases gS : c2.1
             · simp only [gS, zao, ↓reduceIte] at hy
               cases hy
               repeat' (first
 |simp only[go_sem, hC, hE, hF, hS, fj, h8, gS]
 |(with_reducible refine CU (dm (by with_unfolding_all rfl)) ?_)
 |(with_reducible refine CU (xZ (by with_unfolding_all rfl)) ?_)
 |(with_reducible refine CU (JY (by with_unfolding_all rfl)) ?_)
 |(with_reducible refine CU (Ee (by with_unfolding_all rfl)) ?_)
 |(with_reducible refine CU (JZ (by with_unfolding_all rfl)) ?_)
 |(with_reducible refine CU (wb (by with_unfolding_all rfl)) ?_)
 |(with_reducible refine CU (wc (by with_unfolding_all rfl)) ?_)
 |(with_reducible first|refine aX fun hc =>?_|refine aY fun hc =>?_|refine aZ (fun hc =>?_) fun hc =>?_)<;>(try simp only[hc, bs,↓reduceIte]at h)<;>try simp only[hc]
 |(with_reducible refine ay hQ ?_; simp only[bp, bq, bS, bT, go_sem, hC, hE, hF, hS]; repeat' (first|exact Ok.out|with_reducible refine eJ ?_ ?_|(simp; done))))
               all_goals
                 refine b9 3 0 ?_ ?_ (fin (dS (dS Tg _ _ h3) _ _ h4) h hB hQ)
                 · (simp only[go_sem, hC, hE, hF, hS, zag, zaf, zah]; try exact aT)
                 · (simp only[go_sem, hC, hE, hF, hS, zag, zaf, zah]; try exact aT)
             · simp only [gS, zan, zaa, ↓reduceIte] at hy
               repeat' (first
 |simp only[go_sem, hC, hE, hF, hS, fj, h8, gS]
 |(with_reducible refine CU (dm (by with_unfolding_all rfl)) ?_)
 |(with_reducible refine CU (xZ (by with_unfolding_all rfl)) ?_)
 |(with_reducible refine CU (JY (by with_unfolding_all rfl)) ?_)
 |(with_reducible refine CU (Ee (by with_unfolding_all rfl)) ?_)
 |(with_reducible refine CU (JZ (by with_unfolding_all rfl)) ?_)
 |(with_reducible first|refine aX fun hc =>?_|refine aY fun hc =>?_|refine aZ (fun hc =>?_) fun hc =>?_)<;>(try simp only[hc, bs,↓reduceIte]at h)<;>try simp only[hc]
 |(with_reducible refine ay hQ ?_; simp only[bp, bq, bS, bT, go_sem, hC, hE, hF, hS]; repeat' (first|exact Ok.out|with_reducible refine eJ ?_ ?_|(simp; done))))
               all_goals
                 refine b9 3 1 ?_ ?_ (mE gS hy)
                 · (simp only[go_sem, hC, hE, hF, hS, zag, zaf, zah]; try exact aT)
                 · (simp only[go_sem, hC, hE, hF, hS, zag, zaf, zah]; try exact aT)
           · have eN : decide ((l.length : Int) < 8) = false := by rw [h8] at e8; simpa using e8.symm
             have adM : r2.bad 4 = some { r2 with code := 4, gE := t.pos } := by simp only[Rd.bad, ji,↓reduceIte, ht, zam]
             have hf : ({ r2 with code := 4, gE := t.pos } : Rd).good = false := rfl
             have eF : (t.kind != 1) = false := by simpa using fj
             simp only[Rd.name, ht, zam, ji, eF, zan, zbz, zaa,↓reduceIte, eN, zao, adM, Option.some.injEq]at g2
             subst g2
             rw[xX hf]at g4
             simp only[Option.some.injEq]at g4
             subst g4
             simp only[zao,↓reduceIte]at hy
             cases hy
             have fl := fun {z : D} [Cell z] {s : St} {o : Nat} (ho : s.aw[o]? = some (bC z r2)) => nU adM ho
             have tkf := fun (w : aB) {z : D} [Cell z] {s : St} {o : Nat} (ho : s.aw[o]? = some (bC z { r2 with code := 4, gE := t.pos })) => gN (xX hf w) ho
             have nmf := fun {z : D} [Cell z] {s : St} {o : Nat} (ho : s.aw[o]? = some (bC z { r2 with code := 4, gE := t.pos })) => jr (room := false) (full := true) (Tf hf false (t := t) ht) rfl ho
             clear JY Ee JZ
             repeat' (first
 |simp only[go_sem, hC, hE, hF, hS, fj, h8]
 |(with_reducible refine CU (dm (by with_unfolding_all rfl)) ?_)
 |(with_reducible refine CU (xZ (by with_unfolding_all rfl)) ?_)
 |(with_reducible refine CU (fl (by with_unfolding_all rfl)) ?_)
 |(with_reducible refine CU (tkf _ (by with_unfolding_all rfl)) ?_)
 |(with_reducible refine CU (nmf (by with_unfolding_all rfl)) ?_)
 |(with_reducible refine CU (wb (by with_unfolding_all rfl)) ?_)
 |(with_reducible refine CU (wc (by with_unfolding_all rfl)) ?_)
 |(with_reducible first|refine aX fun hc =>?_|refine aY fun hc =>?_|refine aZ (fun hc =>?_) fun hc =>?_)<;>(try simp only[hc, bs,↓reduceIte]at h)<;>try simp only[hc]
 |(with_reducible refine ay hQ ?_; simp only[bp, bq, bS, bT, go_sem, hC, hE, hF, hS]; repeat' (first|exact Ok.out|with_reducible refine eJ ?_ ?_|(simp; done))))
             all_goals
               refine b9 3 0 ?_ ?_ (fin (dS (dS Tg _ _ h3) _ _ h4) h hB hQ)
               · (simp only[go_sem, hC, hE, hF, hS, zag, zaf, zah]; try exact aT)
               · (simp only[go_sem, hC, hE, hF, hS, zag, zaf, zah]; try exact aT)
       · simp only [zan, zaa, ↓reduceIte, Option.some.injEq] at Ef
         subst Ef
         cases h8 : ((l.length : Int) == 8)
         all_goals
           rw[h8]at Ee
           cases gS : c2.1
           · simp only [gS, zao, ↓reduceIte] at hy
             cases hy
             repeat' (first
 |simp only[go_sem, hC, hE, hF, hS, h8, gS]
 |(with_reducible refine CU (dm (by with_unfolding_all rfl)) ?_)
 |(with_reducible refine CU (xZ (by with_unfolding_all rfl)) ?_)
 |(with_reducible refine CU (JY (by with_unfolding_all rfl)) ?_)
 |(with_reducible refine CU (Ee (by with_unfolding_all rfl)) ?_)
 |(with_reducible refine CU (JZ (by with_unfolding_all rfl)) ?_)
 |(with_reducible refine CU (wb (by with_unfolding_all rfl)) ?_)
 |(with_reducible refine CU (wc (by with_unfolding_all rfl)) ?_)
 |(with_reducible first|refine aX fun hc =>?_|refine aY fun hc =>?_|refine aZ (fun hc =>?_) fun hc =>?_)<;>(try simp only[hc, bs,↓reduceIte]at h)<;>try simp only[hc]
 |(with_reducible refine ay hQ ?_; simp only[bp, bq, bS, bT, go_sem, hC, hE, hF, hS]; repeat' (first|exact Ok.out|with_reducible refine eJ ?_ ?_|(simp; done))))
             all_goals
               refine b9 3 0 ?_ ?_ (fin (dS (dS Tg _ _ h3) _ _ h4) h hB hQ)
               · (simp only[go_sem, hC, hE, hF, hS, zag, zaf, zah]; try exact aT)
               · (simp only[go_sem, hC, hE, hF, hS, zag, zaf, zah]; try exact aT)
           · simp only [gS, zan, zaa, ↓reduceIte] at hy
             repeat' (first
 |simp only[go_sem, hC, hE, hF, hS, h8, gS]
 |(with_reducible refine CU (dm (by with_unfolding_all rfl)) ?_)
 |(with_reducible refine CU (xZ (by with_unfolding_all rfl)) ?_)
 |(with_reducible refine CU (JY (by with_unfolding_all rfl)) ?_)
 |(with_reducible refine CU (Ee (by with_unfolding_all rfl)) ?_)
 |(with_reducible refine CU (JZ (by with_unfolding_all rfl)) ?_)
 |(with_reducible first|refine aX fun hc =>?_|refine aY fun hc =>?_|refine aZ (fun hc =>?_) fun hc =>?_)<;>(try simp only[hc, bs,↓reduceIte]at h)<;>try simp only[hc]
 |(with_reducible refine ay hQ ?_; simp only[bp, bq, bS, bT, go_sem, hC, hE, hF, hS]; repeat' (first|exact Ok.out|with_reducible refine eJ ?_ ?_|(simp; done))))
             all_goals
               refine b9 3 1 ?_ ?_ (mE gS hy)
               · (simp only[go_sem, hC, hE, hF, hS, zag, zaf, zah]; try exact aT)
               · (simp only[go_sem, hC, hE, hF, hS, zag, zaf, zah]; try exact aT)
 · simp only [qs, ↓reduceIte] at h
   rw[zab]at h
   obtain ⟨r2, h2, h⟩ := h
   have wb := fun {z : D} [Cell z] {s : St} {o : Nat} (ho : s.aw[o]? = some (bC z q.2)) => fY h2 ho
   refine aC.go lV.h rfl fun B Q hB hQ =>?_
   have ⟨hC, hE, hF, hS⟩ := bt
   repeat' (first
 |simp only[go_sem, hC, hE, hF, hS, qs]
 |(with_reducible refine CU (nm (by with_unfolding_all rfl)) ?_)
 |(with_reducible refine CU (wa (by with_unfolding_all rfl)) ?_)
 |(with_reducible refine CU (tk (by with_unfolding_all rfl)) ?_)
 |(with_reducible refine CU (wb (by with_unfolding_all rfl)) ?_)
 |(with_reducible first|refine aX fun hc =>?_|refine aY fun hc =>?_|refine aZ (fun hc =>?_) fun hc =>?_)<;>(try simp only[hc, bs,↓reduceIte]at h)<;>try simp only[hc]
 | (with_reducible refine ay hQ ?_; exact aK))
   refine b8 3 0 (fin (ps := []) (dS kq _ _ h2) h hB hQ)
end Go.Abs
namespace Go.Abs
set_option maxRecDepth 8000
set_option maxHeartbeats 4000000
open Go.Proofs
def Pc.fk (n:Nat):List Pc→Nat
 | []=>n
 |f::l=>Pc.fk (Sm.b7 true n f.body).2 l
theorem Pc.eV (f:Pc) : ∀ (l:List Pc) (n:Nat),Pc.b7 n (l++ [f])=Pc.b7 n l++ [{f with body:=(Sm.b7 true (Pc.fk n l) f.body).1}]
 | [],n=>by simp only[zaR,Pc.b7,Pc.fk]
 |g::l,n=>by simp only[zaH,Pc.b7,Pc.fk,Pc.eV f l]
theorem Pc.Mk (f:Pc) : ∀ (l:List Pc) (n:Nat),Pc.fk n (l++ [f])=(Sm.b7 true (Pc.fk n l) f.body).2
 | [],n=>by simp only[zaR,Pc.fk]
 |g::l,n=>by simp only[zaH,Pc.fk,Pc.Mk f l]
theorem Pc.e9 : ∀ (l:List Pc) (n:Nat),(Pc.b7 n l).length=l.length
 | [],n=>rfl
 |g::l,n=>by simp only[Pc.b7,zal,Pc.e9 l]
theorem adN {m:Nat} {r0:Rd} : ∀ (n:Nat) (l:List aB) (r:Rd),df r0 r→Pt (Rd.vars m n l r) (fun p=>df r0 p.2):=by
 intro n
 induction n with
 |zero=>intro l r _;simp only[Rd.vars];exact Pt.none
 |succ n ih=>
  intro l r h
  simp only[Rd.vars]
  exact(ie h _).bind fun q hq=>Pt.ite (fun _=>(xY _ _ _ hq).bind fun x hx=>ih _ _ hx) fun _=>Pt.some hq
theorem Xb {r0:Rd} : ∀ (n:Nat) (l:List Pm) (r:Rd),df r0 r→Pt (Rd.params n l r) (fun p=>df r0 p.2):=by
 intro n
 induction n with
 |zero=>intro l r _;simp only[Rd.params];exact Pt.none
 |succ n ih=>
  intro l r h
  simp only[Rd.params]
  exact Pt.ite (fun _=>(ie h _).bind fun q hq=>(nR hq _).bind fun x hx=>Pt.any fun l=>(ie hx _).bind fun c hc=>Pt.ite (fun _=>Pt.some hc) fun _=>ih _ _ hc) fun _=>Pt.some h
theorem Ml {m:Nat} {name:aB} {ps:List Pm} {r0 r:Rd} (h:df r0 r):Pt (Rd.jB m name ps r) fun p=>lq r0 (Sm.b7 true r0.n p.1.body).2 p.2:=by
 unfold Rd.jB
 refine(adN m [] r h).bind fun v hv=>((nW m).1 _ _ _).bind fun b hb=>Pt.some ?_
 dsimp only
 rw[← hv.n]
 exact((lq.refl r0).keep hv).trans hb
theorem adO {m:Nat} {r:Rd} : Pt (Rd.proc m r) fun p=>lq r (Sm.b7 true r.n p.1.body).2 p.2:=by
 unfold Rd.proc
 refine(nR (df.refl r) _).bind fun x hx=>(dS hx _).bind fun r1 h1=>Pt.any fun b=>Pt.ite (fun _=>?_) fun _=>?_
 ·exact(Xb _ _ _ h1).bind fun q hq=>(dS hq _).bind fun r hr=>(dS hr _).bind fun r hr=>Ml hr
 ·exact(dS h1 _).bind fun r hr=>(dS hr _).bind fun r hr=>Ml hr
theorem Mm {m:Nat} {z:D} [Cell z] {r:Rd} {p:Pc×Rd} (h:Rd.proc m r=some p) (hT:TW r.l) (hz:r.good=true→z = .int .i64 r.n) (hN:r.good=true→r.n≤200) {s:St} {o:Nat} (ho:s.aw[o]? = some (bC z r)) :
 aC Tryz.prog 114 [.ptr o 0] s (.agg (cf {p.1 with body:=(Sm.b7 true r.n p.1.body).1})) ⟨s.aw.set o (bC (cN p.2) p.2),s.aE⟩:=
 aC.fy (aak h hT hz hN) rfl (gI _ r) (gI _ p.2) (by simp only[D.ok];exact qL _) ho
theorem adP {m:Nat} {r:Rd} {t:bN} (hg:r.good=false) (ht:r.fA=some t):Rd.proc (m+2) r=some (⟨[],[],[],[],[]⟩,r):=by
 simp only[Rd.proc,Rd.other,Tf hg true ht,zam,uQ hg,hg,zaa,↓reduceIte,Rd.jB,Rd.vars,xX hg,Rd.rows,Rd.dI]
theorem Lg {m:Nat} {B:eQ} {Q:Exit→Tm→St→Prop} {g:List aB} {p:Pg×Int×Int} {r:Rd} {k:Nat} (hB:B.s = ⟨[],[]⟩)
 (hQ:gZ 0 0 [(2,some (true,2)),(3,some (true,2))] (.tuple [.agg (bQ p.1), .agg (iJ p.2)]) ⟨[],[]⟩=Q)
 (h:((Rd.procs (m+2) k [] r).bind fun q=>if q.2.code != 0 then some (tz,q.2.code,q.2.gE)else((⟨g,q.1⟩:Pg).qk).bind fun x=>some (x,0,0))=some p) (hT:TW r.l) (hn:r.n=0) :
 aV Tryz.prog B 74 Q00 (ij 2 (kn (fZ Tryz.prog B 74 Q01 Q) Q)) [(2, .ptr 0 0),(3, .ptr 1 0),(6, .ptr 3 0),(7, .ptr 4 0)]
  ⟨[[.slice .full 0 [], .slice .full 0 []],[.int .i64 0, .int .i64 0],[.junk, .junk],bC (.int .i64 0) r,[.slice .shared 1 (g.map encStr), .slice .full 0 []]],[]⟩:=by
 have⟨hC,hE,hF,hS⟩:=bt
 rw[zab]at h
 obtain⟨q,h,hr⟩:=h
 cases hg:r.good
 ·cases k with
  |zero=>simp only[Rd.procs]at h;cases h
  |succ k=>
   simp only[Rd.procs,Rd.oJ,Rd.mP,hg,zaa,↓reduceIte,zam]at h
   cases h
   have hc:(r.code != 0)=true:=by simpa[Rd.good]using hg
   simp only[hc,↓reduceIte]at hr
   cases hr
   refine aV.gO ?_
   repeat' (first
 |simp only[go_sem,hC,hE,hF,hS,hg]
 |(with_reducible refine CU (dm (by with_unfolding_all rfl)) ?_)
 |(with_reducible first|refine aX fun hc=>?_|refine aY fun hc=>?_|refine aZ (fun hc=>?_) fun hc=>?_)<;>(try simp only[hc,bs,↓reduceIte]at h)<;>try simp only[hc]
 |(with_reducible refine ay hQ ?_;simp only[bp,bq,bS,bT,go_sem,hC,hE,hF,hS,hg];try exact cp))
 ·refine aV.qa 4 1 5 rfl rfl ?_
  simp only[go_sem,hC,hE,hF,hS]
  refine b9 5 1 ?_ ?_ (aV.ind (ι:=Nat×List Pc×Rd×Nat) (fun i=>Rd.procs (m+2) i.1 i.2.1 i.2.2.1=some q∧i.2.2.2=i.2.1.length∧i.2.2.1.good=true∧i.2.2.1.l=r.l∧i.2.2.1.n≤200∧Pc.fk 0 i.2.1=i.2.2.1.n∧i.2.1.length≤16) (fun i=>i.1)
   (fun i=> [(2, .ptr 0 0),(3, .ptr 1 0),(6, .ptr 3 0),(7, .ptr 4 0)]) (fun i=>⟨[[.slice .full 0 [], .slice .full 0 []],[.int .i64 0, .int .i64 0],[.junk, .junk],bC (.int .i64 i.2.2.1.n) i.2.2.1,[.slice .shared 1 (g.map encStr), .slice (.tok 0) 5 ((Pc.b7 0 i.2.1).map cf)]],[some i.2.2.2]⟩) ?_ (k,[],r,0) ⟨h,rfl,hg,rfl,by show r.n≤200;omega,by simp only[Pc.fk];exact hn.symm,zau _⟩)
  ·(simp only[go_sem,hC,hE,hF,hS,Pc.b7,zah,hn,Int.ofNat_zero];try exact aT)
  ·(simp only[go_sem,hC,hE,hF,hS,Pc.b7,zah,hn,Int.ofNat_zero];try exact aT)
  rintro⟨n,l,r2,kk⟩ ⟨h,hk,ji,ew,jI,PU,hlen⟩ IH
  dsimp only at hk ji ew jI PU hlen;subst hk
  cases n with
  |zero=>simp only[Rd.procs]at h;cases h
  | succ n=>
   simp only[Rd.procs,Rd.oJ,Rd.mP,ji,↓reduceIte]at h
   rw[zab]at h
   obtain⟨b,hb,h⟩:=h
   have xZ:=fun {z:D} [Cell z] {s:St} {o:Nat} (ho:s.aw[o]? = some (bC z r2))=>kN (oV hb ji) ho
   unfold Rd.is at hb
   rw[zab]at hb
   obtain⟨t,ht,hb⟩:=hb
   obtain⟨hC,hE,y7,y8⟩:=fh ht
   have hF:(l.length+1)*113≤bh:=by unfold bh;omega
   have Yu:=Pc.e9 l 0
   have sh : ∀ {r3:Rd},r3.good=false→r3.l=r2.l→r3.i=r2.i→∀ {z:D} [Cell z] {s:St} {o:Nat},s.aw[o]? = some (bC z r3)→
    aC Tryz.prog 114 [.ptr o 0] s (.agg (cf {(⟨[],[],[],[],[]⟩:Pc)with body:=(Sm.b7 true r3.n []).1})) ⟨s.aw.set o (bC (cN r3) r3),s.aE⟩:=by
    intro r3 g3 l3 i3 z _ s o ho
    exact Mm (adP (m:=m) (t:=t) g3 (by unfold Rd.fA at ht ⊢;rw[l3,i3];exact ht)) (by rw[l3,ew];exact hT) (fun g=>by rw[g3]at g;cases g) (fun g=>by rw[g3]at g;cases g) ho
   cases b
   ·have ld:=Option.some.inj hb
    have hw:r2.want [112,114,111,99] = r2.bad 3:=by
     simp only[Rd.want,Rd.take,ji,zan,zaa,↓reduceIte,Rd.is,ht,zam,ld,zao,↓reduceIte]
    simp only[zaa,↓reduceIte,ht,zam]at h
    cases sL:(t.kind != 0)
    ·simp only [sL,zaa, ↓reduceIte]at h
     cases h
     have hc:(r2.code != 0)=false:=by simpa[Rd.good]using ji
     simp only[hc,zaa,↓reduceIte,Pg.qk]at hr
     split at hr
     ·simp only [zam]at hr
      cases hr
      repeat' (first
 |simp only[go_sem,hC,hE,hF,hS,sL,Pg.number]
 |(with_reducible refine CU (dm (by with_unfolding_all rfl)) ?_)
 |(with_reducible refine CU (xZ (by with_unfolding_all rfl)) ?_)
 |(with_reducible first|refine aX fun hc=>?_|refine aY fun hc=>?_|refine aZ (fun hc=>?_) fun hc=>?_)<;>(try simp only[hc,bs,↓reduceIte]at h)<;>try simp only[hc]
 | (with_reducible refine ay hQ ?_;simp only [bp,bq,bS,bT,go_sem,hC,hE,hF,hS,sL,Pg.number];try exact cp))
     ·cases hr
    ·simp only [sL, ↓reduceIte]at h
     rw[zab]at h
     obtain⟨r3,h3,h⟩:=h
     rw[h3]at hw
     have g3:=(vY r2 (by decide) _ h3).2
     have e3:r3.l=r2.l∧r3.i=r2.i:=by
      unfold Rd.bad at h3
      simp only[ji,↓reduceIte,ht,zam,Option.some.injEq]at h3
      rw[← h3];exact⟨rfl,rfl⟩
     cases h
     have hc:(r3.code != 0)=true:=by simpa[Rd.good]using g3
     simp only[hc,↓reduceIte]at hr
     cases hr
     have wa:=fun {z:D} [Cell z] {s:St} {o:Nat} (ho:s.aw[o]? = some (bC z r2))=>fY hw ho
     have pf:=fun {z:D} [Cell z] {s:St} {o:Nat} (ho:s.aw[o]? = some (bC z r3))=>sh g3 e3.1 e3.2 ho
     rw[kR g3]at pf
     repeat' (first
 |simp only[go_sem,hC,hE,hF,hS,sL,g3,Yu]
 |(with_reducible refine CU (dm (by with_unfolding_all rfl)) ?_)
 |(with_reducible refine CU (xZ (by with_unfolding_all rfl)) ?_)
 |(with_reducible refine CU (wa (by with_unfolding_all rfl)) ?_)
 |(with_reducible refine CU (pf (by with_unfolding_all rfl)) ?_)
 |(with_reducible refine aV.gO ?_)
 |(with_reducible first|refine aX fun hc=>?_|refine aY fun hc=>?_|refine aZ (fun hc=>?_) fun hc=>?_)<;>(try simp only[hc,bs,↓reduceIte]at h)<;>try simp only[hc]
 | (with_reducible refine ay hQ ?_;exact aK))
   ·have ld:=Option.some.inj hb
    have sL:(t.kind != 0)=true:=by
     simp only[zaq,zay,beq_iff_eq]at ld
     rcases ld.1 with e|e<;>simp[e]
    simp only[↓reduceIte]at h
    cases GD:((l.length:Int)==16)
    ·simp only [GD,zaa, ↓reduceIte]at h
     have hw:r2.want [112,114,111,99] = some {r2 with i:=r2.i+1}:=by
      simp only[Rd.want,Rd.take,ji,zan,zaa,↓reduceIte,Rd.is,ht,zam,ld]
     have wa:=fun {z:D} [Cell z] {s:St} {o:Nat} (ho:s.aw[o]? = some (bC z r2))=>fY hw ho
     rw[zab]at h
     obtain⟨x,hx,h⟩:=h
     rw[zab]at h
     obtain⟨l',hp,h⟩:=h
     obtain⟨_,rfl⟩:=dH hp
     have pc:=fun {s:St} {o:Nat} (ho:s.aw[o]? = some (bC (.int .i64 r2.n) {r2 with i:=r2.i+1}))=>Mm (z:= .int .i64 r2.n) hx (by rw[← ew]at hT;exact hT) (fun _=>rfl) (fun _=>jI) ho
     have eU:=adO _ hx
     dsimp only at pc eU
     have alE:l.length+1≤16:=by
      have:l.length≠16:=by intro e;simp[e]at GD
      omega
     cases bJ:x.2.good
     ·rw [kR bJ]at pc
      cases n with
      |zero=>simp only[Rd.procs]at h;cases h
      |succ n=>
       simp only[Rd.procs,Rd.oJ,Rd.mP,bJ,zaa,↓reduceIte,zam]at h
       cases h
       have hc:(x.2.code != 0)=true:=by simpa[Rd.good]using bJ
       simp only[hc,↓reduceIte]at hr
       cases hr
       repeat' (first
 |simp only[go_sem,hC,hE,hF,hS,sL,bJ,Yu,GD]
 |(with_reducible refine CU (dm (by with_unfolding_all rfl)) ?_)
 |(with_reducible refine CU (xZ (by with_unfolding_all rfl)) ?_)
 |(with_reducible refine CU (wa (by with_unfolding_all rfl)) ?_)
 |(with_reducible refine CU (pc (by with_unfolding_all rfl)) ?_)
 |(with_reducible refine aV.gO ?_)
 |(with_reducible first|refine aX fun hc=>?_|refine aY fun hc=>?_|refine aZ (fun hc=>?_) fun hc=>?_)<;>(try simp only[hc,bs,↓reduceIte]at h)<;>try simp only[hc]
 |(with_reducible refine ay hQ ?_;exact aK))
     ·rw [pH bJ]at pc
      have afE:Pc.fk 0 (l++ [x.1])=x.2.n:=by rw[Pc.Mk,PU];exact eU.n bJ
      repeat' (first
 |simp only[go_sem,hC,hE,hF,hS,sL,Yu,GD]
 |(with_reducible refine CU (dm (by with_unfolding_all rfl)) ?_)
 |(with_reducible refine CU (xZ (by with_unfolding_all rfl)) ?_)
 |(with_reducible refine CU (wa (by with_unfolding_all rfl)) ?_)
 |(with_reducible refine CU (pc (by with_unfolding_all rfl)) ?_)
 |(with_reducible first|refine aX fun hc=>?_|refine aY fun hc=>?_|refine aZ (fun hc=>?_) fun hc=>?_)<;>(try simp only[hc,bs,↓reduceIte]at h)<;>try simp only[hc]
 | (with_reducible refine ay hQ ?_;exact aK))
      refine b9 5 1 ?_ ?_ (IH (n,_,_,l.length+1) ⟨h,by simp,bJ,eU.l.trans ew,eU.le bJ jI,afE,by simp;omega⟩ (zac _))
      ·(simp only[go_sem,hC,hE,hF,hS,Pc.eV,PU,zag,zaf,zah];try exact aT)
      ·(simp only[go_sem,hC,hE,hF,hS,Pc.eV,PU,zag,zaf,zah];try exact aT)
    ·simp only [GD, ↓reduceIte]at h
     rw[zab]at h
     obtain⟨r3,h3,h⟩:=h
     have g3:=(vY r2 (by decide) _ h3).2
     have e3:r3.l=r2.l∧r3.i=r2.i:=by
      unfold Rd.bad at h3
      simp only[ji,↓reduceIte,ht,zam,Option.some.injEq]at h3
      rw[← h3];exact⟨rfl,rfl⟩
     cases h
     have hc:(r3.code != 0)=true:=by simpa[Rd.good]using g3
     simp only[hc,↓reduceIte]at hr
     cases hr
     have fl:=fun {z:D} [Cell z] {s:St} {o:Nat} (ho:s.aw[o]? = some (bC z r2))=>nU h3 ho
     have wa:=fun {z:D} [Cell z] {s:St} {o:Nat} (ho:s.aw[o]? = some (bC z r3))=>fY (uQ g3 [112,114,111,99]) ho
     have pf:=fun {z:D} [Cell z] {s:St} {o:Nat} (ho:s.aw[o]? = some (bC z r3))=>sh g3 e3.1 e3.2 ho
     rw[kR g3]at pf
     repeat' (first
 |simp only[go_sem,hC,hE,hF,hS,sL,g3,Yu,GD]
 |(with_reducible refine CU (dm (by with_unfolding_all rfl)) ?_)
 |(with_reducible refine CU (xZ (by with_unfolding_all rfl)) ?_)
 |(with_reducible refine CU (fl (by with_unfolding_all rfl)) ?_)
 |(with_reducible refine CU (wa (by with_unfolding_all rfl)) ?_)
 |(with_reducible refine CU (pf (by with_unfolding_all rfl)) ?_)
 |(with_reducible refine aV.gO ?_)
 |(with_reducible first|refine aX fun hc=>?_|refine aY fun hc=>?_|refine aZ (fun hc=>?_) fun hc=>?_)<;>(try simp only[hc,bs,↓reduceIte]at h)<;>try simp only[hc]
 |(with_reducible refine ay hQ ?_;exact aK))
theorem Xc {m:Nat} {text:aB} {p:Pg×Int×Int} (h:l9 (m+2) text=some p) (hT:TW (eX text).1) (hl:text.length<4611686018427387904) (s:St) :
 aC Tryz.prog 53 [.str text] s (.tuple [.agg (bQ p.1), .agg (iJ p.2)]) s:=by
 refine aC.pure ?_ rfl (by simp[D.ok,D.bP,fH,iJ]) s
 unfold l9 at h
 have Fj:=afz text hl
 generalize eX text=t at h Fj hT
 cases hc:t.2.1 != 0
 ·simp only [hc,zaa, ↓reduceIte]at h
  unfold S0
  refine aC.go o5.h rfl fun B Q hB hQ=>?_
  have⟨hC,hE,hF,hS⟩:=bt
  repeat' (first
 |simp only[go_sem,hC,hE,hF,hS,hc]
 |(with_reducible refine CU (Fj _) ?_)
 | (with_reducible refine ay hQ ?_;exact aK))
  rw[zab]at h
  obtain⟨q,h,hr⟩:=h
  unfold Rd.program at h
  rw[zab]at h
  obtain⟨q1,h,pO⟩:=h
  rw[zab]at pO
  obtain⟨q2,h2,pO⟩:=pO
  cases pO
  have afF:((Rd.procs (m+2) (m+2) [] q1.2).bind fun q=>if q.2.code != 0 then some (tz,q.2.code,q.2.gE)else((⟨q1.1,q.1⟩:Pg).qk).bind fun x=>some (x,0,0))=some p:=by
   rw[h2,zam];exact hr
  refine aV.qa 4 0 1 rfl rfl ?_
  simp only[go_sem,hC,hE,hF,hS]
  refine b9 5 1 ?_ ?_ (aV.ind (ι:=Nat×List aB×Rd×Nat) (fun i=>Rd.globals (m+2) i.1 i.2.1 i.2.2.1=some q1∧i.2.2.2=i.2.1.length∧df (q8 t.1) i.2.2.1) (fun i=>i.1)
   (fun i=> [(2, .ptr 0 0),(3, .ptr 1 0),(6, .ptr 3 0),(7, .ptr 4 0)]) (fun i=>⟨[[.slice .full 0 [], .slice .full 0 []],[.int .i64 0, .int .i64 0],[.junk, .junk],bC (.int .i64 0) i.2.2.1,[.slice (.tok 0) 1 (i.2.1.map encStr), .slice .full 0 []]],[some i.2.2.2]⟩) ?_ (m+2,[],q8 t.1,0) ⟨h,rfl,df.refl _⟩)
  ·(simp only[go_sem,hC,hE,hF,hS,q8];try exact aT)
  ·(simp only[go_sem,hC,hE,hF,hS,q8];try exact aT)
  rintro⟨n,l,r2,k⟩ ⟨h,hk,iS⟩ IH
  dsimp only at hk iS;subst hk
  cases n with
  |zero=>simp only[Rd.globals]at h;cases h
  | succ n=>
   simp only[Rd.globals]at h
   rw[zab]at h
   obtain⟨c,hc,h⟩:=h
   have kc:=ie iS _ _ hc
   have tk:=fun {z:D} [Cell z] {s:St} {o:Nat} (ho:s.aw[o]? = some (bC z r2))=>gN hc ho
   cases gS:c.1
   ·simp only [gS,zaa, ↓reduceIte]at h
    cases h
    repeat' (first
 |simp only[go_sem,hC,hE,hF,hS,gS]
 |(with_reducible refine CU (tk (by with_unfolding_all rfl)) ?_)
 | (with_reducible refine ay hQ ?_;exact aK))
    refine b8 5 0 (Lg hB hQ afF (by rw[kc.l];exact hT) kc.n)
   ·simp only [gS, ↓reduceIte]at h
    have Se:=(qt hc gS).1
    rw[zab]at h
    obtain⟨x,hx,h⟩:=h
    have ls:=fun {z:D} [Cell z] {s:St} {o t:Nat} (ho:s.aw[o]? = some (bC z c.2)) (ht:s.aE[t]? = some (some l.length))=>Mj hx Se ho ht
    repeat' (first
 |simp only[go_sem,hC,hE,hF,hS,gS]
 |(with_reducible refine CU (tk (by with_unfolding_all rfl)) ?_)
 |(with_reducible refine CU (ls (by with_unfolding_all rfl) (by with_unfolding_all rfl)) ?_)
 |(with_reducible first|refine aX fun hc=>?_|refine aY fun hc=>?_|refine aZ (fun hc=>?_) fun hc=>?_)<;>(try simp only[hc,bs,↓reduceIte]at h)<;>try simp only[hc]
 | ((with_reducible refine ay hQ ?_);(try cases h);simp only [bp,bq,bS,bT,go_sem,hC,hE,hF,hS,gS];try exact cp))
    refine b8 5 1 (IH (n,_,_,_) ⟨h,rfl,xY _ _ _ kc _ hx⟩ (zac _))
 ·simp only [hc, ↓reduceIte]at h
  unfold S0
  refine aC.go o5.h rfl fun B Q hB hQ=>?_
  have⟨hC,hE,hF,hS⟩:=bt
  repeat' (first
 |simp only[go_sem,hC,hE,hF,hS,hc]
 |(with_reducible refine CU (Fj _) ?_)
 |(with_reducible first|refine aX fun hc=>?_|refine aY fun hc=>?_|refine aZ (fun hc=>?_) fun hc=>?_)<;>(try simp only[hc,bs,↓reduceIte]at h)<;>try simp only[hc]
 |((with_reducible refine ay hQ ?_);(try cases h);simp only[bp,bq,bS,bT,go_sem,hC,hE,hF,hS,hc];try exact cp))
end Go.Abs
namespace Go.Abs
def M0:Map:=⟨fun _ _=>none,fun _=>(0, .any),fun _=>none⟩
def Kept (w w':World):Prop:=w.keptBut w' (fun _=>False)∧∀ a:Addr,a.block<w.heap.size→w'.frozen? a=w.frozen? a
theorem Kept.frame {w w':World} (h:Kept w w') (may:MemPlace→Prop):w.keptBut w' may:=World.keptBut_mono (fun _ f=>f.elim) h.1
theorem Ext.adR {M M':Map} {s':St} {w w':World} (e:Ext M S0 w M' s' w'):Kept w w':=by
 have hh : ∀ b,b<w.heap.size→w'.heap[b]? = w.heap[b]? :=fun b hb=>
  e.kept b hb (fun o ho=>by simp[S0]at ho) (fun t c z hl=>by obtain⟨n,hn⟩:=hl;simp[S0]at hn)
 refine⟨⟨e.os,e.output,fun i hi=>?_⟩,fun a ha=>?_⟩
 ·rw [hh i hi]
  exact(World.keptBut_refl w (fun _=>False)).2.2 i hi
 ·simp only[World.frozen?,hh _ ha]
theorem aih (G:Nat→Nat→Option Value) (w:World) (h : ∀ b o v,G b o=some v→w.cell? ⟨b,o,none⟩=some v∧v.oneCell'=true):Rel ⟨G,fun _=>(0, .any),fun _=>none⟩ S0 w:=
 ⟨h,fun o ds e=>by simp [S0]at e,fun o ho=>by simp [S0]at ho,fun o o' ho=>by simp [S0]at ho,fun t n e=>by simp [S0]at e,
  fun t b c z o hl=>by obtain⟨n,hn⟩:=hl;simp[S0]at hn,fun t t' b c z c' z' hl=>by obtain⟨n,hn⟩:=hl;simp[S0]at hn⟩
def PV (w:World):Prop:=∀ g cs,aaC g=some cs→∃ T fr,w.heap[g]? = some (.cells cs T fr)
theorem afG (G:Nat→Nat→Option Value) {w:World} (h:PV w):Laid ⟨G,fun _=>(0, .any),fun _=>none⟩ S0 w:=
 fun g cs hg=>⟨h g cs hg,fun o ho=>by simp[S0]at ho,fun t c z hl=>by obtain⟨n,hn⟩:=hl;simp[S0]at hn⟩
theorem Ti {P:Program} {f:FuncId} {args:List D} {fJ:Array Value} {w:World} {G:Nat→Nat→Option Value} (h:dG P f args S0 fun d _=>d = .bool true)
 (hG : ∀ b o v,G b o=some v→w.cell? ⟨b,o,none⟩=some v∧v.oneCell'=true) (hl:fJ.size=args.length)
 (ha : ∀ (i:Nat) (d:D) (v:Value),args[i]? = some d→fJ[i]? = some v→RD ⟨G,fun _=>(0, .any),fun _=>none⟩ S0 d v) (kp:PV w) :
 Calls P f fJ w fun e w'=>e = .returned (.bool true)∧Kept w w':=by
 refine(h _ w fJ (aih G w hG) (afG G kp) hl ha).mono fun e w' hw=>?_
 obtain⟨M',d,v,s',rfl,rfl,he,_,hv⟩:=hw
 rw[hv.nq]
 exact⟨rfl,he.adR⟩
section
variable {P:Program} {H:Type} {enc:TypeId×Value→H}
theorem J0 {f:Func} {s:ChangeSpec} {apart fresh handsOn again:Bool} {W W':World} {args:Array Value} {v:Value} {ds gs:List (DataW H)} {before pa pv:List MemPlace}
 (hW:DataW.Whole enc P f.params.toList s.vars apart W args.toList ds gs before)
 (adS : ∀ (b:Nat) (sp:Nat→Bool) (hd:Bool),DataW.TrodAll enc P W' b sp hd f.resultTypes.toList (v.resultList f.resultTypes.size) (s.fn H (ds++gs)).results [])
 (Hs : ∀ sp:Nat→Bool,(∀ p∈before,sp p.block=true)→DataW.TrodAll enc P W' 0 sp true f.params.toList args.toList (s.fn H (ds++gs)).args pa)
 (Eg : ∀ sp:Nat→Bool,(∀ p∈before,sp p.block=true)→DataW.TrodVars enc P W' sp s.vars (s.fn H (ds++gs)).vars pv)
 (nh:before=pa++pv) (hk:Kept W W')
 (oE : ∀ (j:Nat) (t:TypeId) (r:Value),f.resultTypes[j]? = some t→(v.resultList f.resultTypes.size)[j]? = some r→Value.okWide P W' .any 0 t r) :
 s.post enc P f apart fresh handsOn again W args v W':=by
 have hC : ∀ p∈before,p.block<W.heap.size:=fun p hp=>hW.lt p hp
 have hold : ∀ p∈before,(fun b=>decide (b<W.heap.size)) p.block=true:=fun p hp=>by simpa using hC p hp
 refine⟨ds,gs,before,[],pa,pv,hW,adS _ _ _,Hs _ hold,Eg _ hold,World.keptBut_mono (fun p hp=>⟨hp, ?_⟩) (hk.frame (· ∈before)),fun _=>?_⟩
 ·rw [nh,zaB]at hp
  exact Or.inr hp
 ·obtain⟨_,_,_,_,_,hz,hn⟩:=hW
  refine⟨oE,_,_,([]++pa)++pv,⟨[]++pa,pv,ChangeShapes.trodAll_append (Hs _ (fun _ _=>rfl)) (adS _ _ _),Eg _ (fun _ _=>rfl),rfl, ?_, ?_⟩, ?_⟩
  ·intro b off hp
   have mI:MemPlace.cell b off∈before:=by rw[nh];simpa using hp
   rw[hk.2 _ (hC _ mI)]
   exact hz b off mI
  ·intro ha
   have:=hn ha
   rw[nh]at this
   simpa using this
  ·intro p hp _
   rw[nh]
   simpa using hp
end
end Go.Abs
namespace Go.Abs
open Go.Proofs
def NW (t:bN):Prop:=t.kind=4→wN t.text=false
theorem Lh {c:UInt8} {r:aB} (h:wN (c::r)=true):lG c=true:=by
 simp only[wN,zay,beq_iff_eq,List.cons.injEq]at h
 rcases h with ((((((h|h)|h)|h)|h)|h)|h)|h<;>rw[h.1]<;>rfl
theorem Tj {pos:Nat} {s:aB} {t:bN} (h:fV pos s = .inl t):NW t:=by
 intro hk
 cases s with
 |nil=>simp only[fV]at h;cases h
 | cons c r=>
  simp only[fV]at h
  split at h
  ·split at h
   ·cases h
   ·cases h;dsimp only at hk;split at hk<;>omega
  ·rename_i hL
   split at h
   ·split at h
    ·cases h
    ·split at h
     ·cases h;simp at hk
     ·cases h
   ·split at h
    ·cases h
    ·rename_i hs
     cases h
     dsimp only
     obtain⟨k,hk⟩:=Nat.exists_eq_succ_of_ne_zero hs
     rw[hk,zbp]
     cases hb:wN (c::List.take k r)
     ·rfl
     ·exact absurd (Lh hb) hL
theorem Tk : ∀ (n pos:Nat) (s:aB) (out:List bN),(∀ t∈out,NW t)→∀ t∈(fR n pos s out).1,NW t:=by
 intro n
 induction n with
 |zero=>intro pos s out h t ht;simp[fR]at ht
 | succ n ih=>
  intro pos s out h
  cases s with
  |nil=>
   intro t ht
   simp only[fR]at ht
   rcases zaB.1 ht with h1|h1
   ·exact h t h1
   ·simp at h1;subst h1;intro hk;simp at hk
  | cons c r=>
   simp only[fR]
   split
   ·exact ih _ _ _ h
   ·split
    ·exact ih _ _ _ h
    ·cases ht:fV pos (c::r)with
     |inr e=>simp
     | inl t=>
      dsimp only
      split
      ·simp
      ·refine ih _ _ _ ?_
       intro t' mB
       rcases zaB.1 mB with h1|h1
       ·exact h t' h1
       ·simp at h1;subst h1;exact Tj ht
theorem Tl (text:aB):TW (eX text).1:=by
 unfold eX
 split
 ·intro t ht;simp at ht
 ·exact Tk _ _ _ _ (by simp)
theorem Xd {text:aB} {p:Pg×Int×Int} (h:l9 Bm text=some p) (hl:text.length<4611686018427387904) (s:St) :
 aC Tryz.prog 53 [.str text] s (.tuple [.agg (bQ p.1), .agg (iJ p.2)]) s:=
 Xc (m:=19998) h (Tl text) hl s
set_option maxRecDepth 8000
open Go.Proofs
def ri (p:Pg) (c gE:Int):Pg×Int×Int:=if c==0 then(if p.check.1==0 then(p,0,0)else(tz,p.check))else(tz,c,gE)
theorem Mn {T:aB} {p:Pg} {c gE:Int} (h:l9 Bm T=some (p,c,gE)) (hm:c=0→p.may=true∧gE=0) (hp:p.size<100000) (hl:T.length<4611686018427387904) (s:St) :
 aC Tryz.prog 19 [.str T] s (.tuple [.agg (bQ (ri p c gE).1), .agg (iJ (ri p c gE).2)]) s:=by
 refine aC.pure ?_ rfl (by simp[D.bP,D.ok,fH,iJ]) s
 have h1:=fun s=>Z0 h hl s
 have e0:bQ tz = [.slice .shared 1 [], .slice .shared 5 []]:=rfl
 unfold S0
 unfold ri
 have b0:(c != 0) = !(c==0):=rfl
 rcases zad (c==0)with b1|b1
 case inr=>
  simp only[b1,zaa,if_false]
  rw[b1]at b0
  refine aC.go rJ.h rfl fun B Q hB hQ=>?_
  have⟨hC,hE,hF,hS⟩:=bt
  repeat' (first
 |simp only[go_sem,hC,hE,hF,hS,b1,b0,zao,iJ,e0]
 |(with_reducible refine CU (h1 _) ?_)
 |(with_reducible refine ay hQ ?_;exact aK))
 have hc:c=0:=by simpa using b1
 subst hc
 obtain⟨Fs,hf⟩:=hm rfl
 subst hf
 have ho:p.iK:=⟨vL Fs (by omega),by omega⟩
 have h2:=fun s=>JQ ho s
 have b3:(p.check.1 != 0) = !(p.check.1==0):=rfl
 simp only[b1,if_true]
 rcases zad (p.check.1==0)with b2|b2
 case inr=>
  simp only[b2,zaa,if_false]
  rw[b2]at b3
  refine aC.go rJ.h rfl fun B Q hB hQ=>?_
  have⟨hC,hE,hF,hS⟩:=bt
  repeat' (first
 |simp only[go_sem,hC,hE,hF,hS,b1,b3,zao,iJ,e0]
 |(with_reducible refine CU (h1 _) ?_)
 |(with_reducible refine CU (h2 _) ?_)
 |(with_reducible refine ay hQ ?_;exact aK))
 simp only[b2,if_true]
 rw[b2]at b3
 refine aC.go rJ.h rfl fun B Q hB hQ=>?_
 have⟨hC,hE,hF,hS⟩:=bt
 repeat' (first
 |simp only[go_sem,hC,hE,hF,hS,b1,b3,zan,iJ]
 |(with_reducible refine CU (h1 _) ?_)
 |(with_reducible refine CU (h2 _) ?_)
 |(with_reducible refine ay hQ ?_;exact aK))
theorem aam {T:aB} {p:Pg} {c gE:Int} (h:l9 Bm T=some (p,c,gE)) (hm:c=0→p.may=true∧gE=0) (hp:p.size<100000) (hl:T.length<4611686018427387904) (s:St) :
 aC Tryz.prog 20 [.str T] s (.tuple [.agg (bQ (ri p c gE).1), .agg (iJ (ri p c gE).2)]) s:=by
 refine aC.pure ?_ rfl (by simp[D.bP,D.ok,fH,iJ]) s
 have h1:=fun s=>Xd h hl s
 have e0:bQ tz = [.slice .shared 1 [], .slice .shared 5 []]:=rfl
 unfold S0
 unfold ri
 have b0:(c != 0) = !(c==0):=rfl
 rcases zad (c==0)with b1|b1
 case inr=>
  simp only[b1,zaa,if_false]
  rw[b1]at b0
  refine aC.go s6.h rfl fun B Q hB hQ=>?_
  have⟨hC,hE,hF,hS⟩:=bt
  repeat' (first
 |simp only[go_sem,hC,hE,hF,hS,b1,b0,zao,iJ,e0]
 |(with_reducible refine CU (h1 _) ?_)
 |(with_reducible refine ay hQ ?_;exact aK))
 have hc:c=0:=by simpa using b1
 subst hc
 obtain⟨Fs,hf⟩:=hm rfl
 subst hf
 have ho:p.iK:=⟨vL Fs (by omega),by omega⟩
 have h2:=fun s=>adp ho s
 have b3:(p.check.1 != 0) = !(p.check.1==0):=rfl
 simp only[b1,if_true]
 rcases zad (p.check.1==0)with b2|b2
 case inr=>
  simp only[b2,zaa,if_false]
  rw[b2]at b3
  refine aC.go s6.h rfl fun B Q hB hQ=>?_
  have⟨hC,hE,hF,hS⟩:=bt
  repeat' (first
 |simp only[go_sem,hC,hE,hF,hS,b1,b3,zao,iJ,e0]
 |(with_reducible refine CU (h1 _) ?_)
 |(with_reducible refine CU (h2 _) ?_)
 |(with_reducible refine ay hQ ?_;exact aK))
 simp only[b2,if_true]
 rw[b2]at b3
 have e1:p.check=(0,0):=by
  have:=PG b2
  have h3:p.check.1=0:=by simpa using b2
  rw[← Prod.eta p.check,h3,this]
 rw[e1]at h2
 rw[e1]at b3
 refine aC.go s6.h rfl fun B Q hB hQ=>?_
 have⟨hC,hE,hF,hS⟩:=bt
 repeat' (first
 |simp only[go_sem,hC,hE,hF,hS,b1,b3,zan,iJ]
 |(with_reducible refine CU (h1 _) ?_)
 |(with_reducible refine CU (h2 _) ?_)
 |(with_reducible refine ay hQ ?_;exact aK))
theorem BV:pg.check=(0,0):=by decide +kernel
theorem Tn:Pc.yH pg.procs=8:=by decide +kernel
theorem Tp:tz.check=(5,0):=by decide +kernel
theorem Tq (s:St):aC Tryz.prog 12 [] s (.bool true) s:=by
 refine aC.pure ?_ rfl rfl s
 have dz:=PK
 have Qy:pg.size<100000:=by have:=za8 Gz;omega
 have Fs:pg.may=true:=by decide +kernel
 have ho:pg.iK:=⟨vL Fs (by omega),by omega⟩
 have h1:=fun s=>Mn JS (fun _=>⟨Fs,rfl⟩) Qy PJ s
 have e:ri pg 0 0=(pg,0,0):=by unfold ri;rw[BV];rfl
 rw[e]at h1
 have h2:=fun s=>ado ho s
 rw[BV]at h2
 have h3:=fun s=>Z3 (p:=pg) (by omega) s
 rw[Tn]at h3
 have z0:((0:Int)==0)=true:=rfl
 have z8:(((8:Nat):Int)==8)=true:=rfl
 have z5:((5:Int)==5)=true:=rfl
 have h4':=fun s=>(JQ adn s).FX (d:= .agg [.slice .full 0 [], .slice .full 0 []]) (Wk.agg (.cons (Wk.nil _ _ _) (.cons (Wk.nil _ _ _) .nil)))
 simp only[Tp]at h4'
 unfold S0
 refine aC.go Bs.h rfl fun B Q hB hQ=>?_
 have⟨hC,hE,hF,hS⟩:=bt
 repeat' (first
 |simp only[go_sem,hC,hE,hF,hS,z0,z8,z5,iJ]
 |(with_reducible refine CU (WV _) ?_)
 |(with_reducible refine CU (adl _) ?_)
 |(with_reducible refine CU (h1 _) ?_)
 |(with_reducible refine CU (h2 _) ?_)
 |(with_reducible refine CU (h3 _) ?_)
 |(with_reducible refine CU (h4' _) ?_)
 |(with_reducible refine ay hQ ?_;exact aK))
def mZ (l:List bN):Prop:=∀ t∈l,(t.kind=1→isName t.text=true)∧(t.kind=2→0≤t.n)
def GK {α:Type} (r:Rd) (o:Option (α×Rd)) (Q:α→Prop):Prop:=∀ p,o=some p→p.2.l=r.l∧(p.2.good=true→r.good=true∧Q p.1)
def Yv (r:Rd) (o:Option Rd):Prop:=∀ p,o=some p→p.l=r.l∧(p.good=true→r.good=true)
theorem GK.bind {α β:Type} {r:Rd} {o:Option (α×Rd)} {f:α×Rd→Option (β×Rd)} {Q:α→Prop} {R:β→Prop} (h:GK r o Q) (k : ∀ a q,q.l=r.l→(q.good=true→r.good=true∧Q a)→GK q (f (a,q)) R):GK r (o.bind f) R:=by
 intro p hp
 rw[zab]at hp
 obtain⟨⟨a,q⟩,h1,h2⟩:=hp
 obtain⟨e,g⟩:=h _ h1
 obtain⟨e2,g2⟩:=k a q e g _ h2
 exact⟨e2.trans e,fun hg=>⟨(g (g2 hg).1).1,(g2 hg).2⟩⟩
theorem Yv.bind {β:Type} {r:Rd} {o:Option Rd} {f:Rd→Option (β×Rd)} {R:β→Prop} (h:Yv r o) (k : ∀ q,q.l=r.l→(q.good=true→r.good=true)→GK q (f q) R):GK r (o.bind f) R:=by
 intro p hp
 rw[zab]at hp
 obtain⟨q,h1,h2⟩:=hp
 obtain⟨e,g⟩:=h _ h1
 obtain⟨e2,g2⟩:=k q e g _ h2
 exact⟨e2.trans e,fun hg=>⟨g (g2 hg).1,(g2 hg).2⟩⟩
theorem GK.ask {α β:Type} {r:Rd} {o:Option α} {f:α→Option (β×Rd)} {R:β→Prop} (k : ∀ a,o=some a→GK r (f a) R):GK r (o.bind f) R:=by
 intro p hp
 rw[zab]at hp
 obtain⟨a,h1,h2⟩:=hp
 exact k a h1 _ h2
theorem GK.ret {α:Type} {r:Rd} {a:α} {Q:α→Prop} (h:r.good=true→Q a):GK r (some (a,r)) Q:=fun p hp=>by cases hp;exact⟨rfl,fun g=>⟨g,h g⟩⟩
theorem GK.on {α:Type} {r:Rd} {a:α} {Q:α→Prop} (i:Nat) (h:r.good=true→Q a):GK r (some (a,{r with i:=i})) Q:=fun p hp=>by cases hp;exact⟨rfl,fun g=>⟨g,h g⟩⟩
theorem GK.lu {α:Type} {r:Rd} {Q:α→Prop} : GK r (none:Option (α×Rd)) Q:=fun p hp=>by cases hp
theorem GK.ite {α:Type} {r:Rd} {c:Prop} [Decidable c] {a b:Option (α×Rd)} {Q:α→Prop} (h1:c→GK r a Q) (h2 : ¬ c→GK r b Q):GK r (if c then a else b) Q:=by
 by_cases h:c
 ·rw[if_pos h];exact h1 h
 ·rw[if_neg h];exact h2 h
theorem GK.mono {α:Type} {r:Rd} {o:Option (α×Rd)} {Q R:α→Prop} (h:GK r o Q) (k : ∀ a,Q a→R a):GK r o R:=fun p hp=>⟨(h p hp).1,fun g=>⟨((h p hp).2 g).1,k _ ((h p hp).2 g).2⟩⟩
theorem GK.from {α:Type} {r s:Rd} {o:Option (α×Rd)} {Q:α→Prop} (h:GK s o Q) (hl:s.l=r.l) (hg:s.good=r.good):GK r o Q:=fun p hp=>⟨(h p hp).1.trans hl,fun g=>⟨hg ▸ ((h p hp).2 g).1,((h p hp).2 g).2⟩⟩
theorem HE {r:Rd} {c:Int} (hc:c≠0) : ∀ p,r.bad c=some p→p.l=r.l∧p.good=false:=by
 intro p hp
 unfold Rd.bad at hp
 split at hp
 ·rw [zab]at hp
  obtain⟨t,_,hp⟩:=hp
  cases hp
  exact⟨rfl,by simpa[Rd.good]using hc⟩
 ·rename_i h
  cases hp
  exact⟨rfl,by simpa using h⟩
theorem uS {α:Type} {r:Rd} {c:Int} (hc:c≠0) (a:α) (Q:α→Prop):GK r ((r.bad c).bind fun r=>some (a,r)) Q:=by
 intro p hp
 rw[zab]at hp
 obtain⟨q,h1,h2⟩:=hp
 obtain⟨e,g⟩:=HE hc q h1
 cases h2
 exact⟨e,fun h=>by rw[g]at h;cases h⟩
theorem k9 (r:Rd) (s:aB):GK r (r.take s) fun _=>True:=by
 unfold Rd.take
 exact GK.ite (fun _=>GK.ret fun _=>trivial) fun _=>GK.ask fun b _=>GK.ite (fun _=>GK.ret fun _=>trivial) fun _=>GK.on _ fun _=>trivial
theorem iC (r:Rd) (s:aB):Yv r (r.want s):=by
 intro p hp
 unfold Rd.want at hp
 rw[zab]at hp
 obtain⟨⟨b,q⟩,h1,h2⟩:=hp
 obtain⟨e,g⟩:=k9 r s _ h1
 dsimp only at e g h2
 split at h2
 ·obtain⟨e2,g2⟩:=HE (by decide) p h2
  exact⟨e2.trans e,fun h=>by rw[g2]at h;cases h⟩
 ·cases h2
  exact⟨e,fun h=>(g h).1⟩
theorem Bp {r:Rd} (hT:mZ r.l) {t:bN} (h:r.fA=some t):(t.kind=1→isName t.text=true)∧(t.kind=2→0≤t.n):=hT t (zae (fh h).2.1)
theorem qv {r:Rd} (hT:mZ r.l) (room:Bool):GK r (r.name room) fun s=>isName s=true∧room=true:=by
 unfold Rd.name
 refine GK.ask fun t ht=>GK.ite (fun _=>uS (by decide) _ _) fun hk=>GK.ite (fun _=>uS (by decide) _ _) fun hr=>GK.on _ fun _=>⟨?_,by simpa using hr⟩
 simp only[zay,zaG,not_or,bne_iff_ne,ne_eq,Decidable.not_not]at hk
 exact(Bp hT ht).1 hk.2
theorem adT (t:bN):(fz t).1=0∨5≤(fz t).1∧(fz t).1≤17:=by
 have key : ∀ {c:Prop} [Decidable c] {a b:Int×Int},(a.1=0∨5≤a.1∧a.1≤17)→(b.1=0∨5≤b.1∧b.1≤17)→((if c then a else b).1=0∨5≤(if c then a else b).1∧(if c then a else b).1≤17):=by
  intro c _ a b h1 h2
  by_cases h:c
  ·rw[if_pos h];exact h1
  ·rw[if_neg h];exact h2
 unfold fz
 refine key (by simp) (key (by simp) (key (by simp) (key (by simp) (key (by simp) (key (by simp) (key (by simp) (key (by simp) (key (by simp) (key (by simp) (key (by simp) (key (by simp) (key (by simp) (key (by simp) (by simp))))))))))))))
theorem Xe {n:Int} (h:0≤n):Ex.form ⟨1,n,[],[]⟩=true:=by
 have:decide (n<0)=false:=by simp;omega
 simp[Ex.form,Ex.lW,jH,this]
theorem Tr {s:aB} (h:isName s=true):Ex.form ⟨2,0,s,[]⟩=true:=by
 cases s with
 |nil=>simp[isName]at h
 |cons c r=>simp[Ex.form,Ex.lW,jH,h]
theorem Ts {op:Int} (ho:op=3∨op=4) {x:Ex} (h:x.form=true):Ex.form ⟨op,0,[],[x]⟩=true:=by
 rcases ho with rfl|rfl<;>simp[Ex.form,Ex.lW,jH,h]
theorem adU {op:Int} (ho:5≤op∧op≤17) {x y:Ex} (h:x.form=true) (k:y.form=true):Ex.form ⟨op,0,[],[x,y]⟩=true:=by
 have e1:(op==1)=false:=by simp;omega
 have e2:(op==2)=false:=by simp;omega
 have e3:(op==3)=false:=by simp;omega
 have e4:(op==4)=false:=by simp;omega
 have e5:decide (op≥5)=true:=by simp;omega
 have e6:decide (op≤17)=true:=by simp;omega
 simp[Ex.form,Ex.lW,jH,e1,e2,e3,e4,e5,e6,h,k]
theorem aan : ∀ n:Nat,(∀ r:Rd,mZ r.l→GK r (Rd.one n r) fun x=>x.form=true)∧(∀ (r:Rd) (k:Int),mZ r.l→GK r (Rd.two n k r) fun x=>x.form=true)∧
 (∀ (r:Rd) (k:Int) (x:Ex),mZ r.l→(r.good=true→x.form=true)→GK r (Rd.jf n k x r) fun x=>x.form=true):=by
 intro n
 induction n with
 |zero=>exact⟨fun r _=>by simp only[Rd.one];exact GK.lu,fun r k _=>by simp only[Rd.two];exact GK.lu,fun r k x _ _=>by simp only[Rd.jf];exact GK.lu⟩
 | succ n ih=>
  obtain⟨qH,tq,xU⟩:=ih
  refine⟨fun r hT=>?_,fun r k hT=>?_,fun r k x hT hx=>?_⟩
  ·simp only [Rd.one]
   refine GK.ask fun t ht=>GK.ite (fun hg=>GK.ret fun g=>by rw[g]at hg;cases hg) fun _=>GK.ite (fun hk=>GK.on _ fun _=>Xe ((Bp hT ht).2 (by simpa using hk))) fun _=>
    GK.ite (fun hk=>GK.on _ fun _=>Tr ((Bp hT ht).1 (by simpa using hk))) fun _=>?_
   refine(k9 r _).bind fun b q e g=>GK.ite (fun _=>?_) fun _=>?_
   ·refine(tq q 1 (e ▸ hT)).bind fun x s e2 g2=> ?_
    exact(iC s _).bind fun u e3 g3=>GK.ret fun gu=>(g2 (g3 gu)).2
   refine(k9 q _).bind fun b q2 e2 g2=>GK.ite (fun _=>?_) fun _=>?_
   ·exact(qH q2 (by rw[e2,e];exact hT)).bind fun x s e3 g3=>GK.ret fun gs=>Ts (.inl rfl) (g3 gs).2
   refine(k9 q2 _).bind fun b q3 e3 g3=>GK.ite (fun _=>?_) fun _=>uS (by decide) _ _
   exact(qH q3 (by rw[e3,e2,e];exact hT)).bind fun x s e4 g4=>GK.ret fun gs=>Ts (.inr rfl) (g4 gs).2
  ·simp only [Rd.two]
   exact(qH r hT).bind fun x s e g=>xU s k x (e ▸ hT) fun gs=>(g gs).2
  ·simp only [Rd.jf]
   refine GK.ite (fun _=>GK.ask fun t ht=>GK.ite (fun _=>GK.ret hx) fun lE=>?_) fun _=>GK.ret hx
   have aij:5≤(fz t).1∧(fz t).1≤17:=by
    rcases adT t with h|h
    ·simp[h]at lE
    ·exact h
   refine GK.from (s:= {r with i:=r.i+1}) ?_ rfl rfl
   exact GK.bind (f:=fun y=>Rd.jf n k ⟨(fz t).1,0,[],[x,y.1]⟩ y.2) (tq _ _ hT) fun y s e g=>xU s k _ (by rw[e];exact hT) fun gs=>adU aij (hx (g gs).1) (g gs).2
theorem uT {n:Nat} {r:Rd} (hT:mZ r.l):GK r (Rd.whole n r) fun x=>x.may=true:=by
 unfold Rd.whole
 refine GK.ask fun t _=>((aan n).2.1 r 1 hT).bind fun x s e g=>GK.ite (fun hg=>?_) fun hg=>GK.ret fun gs=>absurd gs hg
 refine GK.ask fun d hd=>GK.ite (fun _=>?_) fun hd2=>GK.ret fun gs=>?_
 ·intro p hp
  cases hp
  exact⟨rfl,fun h=>by cases h⟩
 ·unfold xi at hd
  split at hd
  ·cases hd
   unfold Ex.may
   have hd3:x.depth≤20:=by simp only[decide_eq_true_eq]at hd2;omega
   have:decide (((min x.depth 21:Nat):Int)≤20)=true:=by simp only[decide_eq_true_eq];omega
   rw[this,(g gs).2];rfl
  ·cases hd
theorem uU {t:aB} (h:isName t=true) : ∀ {l:List aB},cr l=true→cr (l++ [t])=true
 | [],_=>by simp[cr,h]
 | s::l,hl=>by
  simp only[cr,zaH]at hl ⊢
  split at hl
  ·cases hl
  ·rename_i hs
   rw[if_neg hs]
   exact uU h hl
theorem J1 {dk:Int} : ∀ (n:Nat) (l:List aB) (r:Rd),mZ r.l→(r.good=true→cr l=true∧(l.length:Int)≤dk)→GK r (Rd.names n l dk r) fun l=>cr l=true∧(l.length:Int)≤dk:=by
 intro n
 induction n with
 |zero=>intro l r _ _;simp only[Rd.names];exact GK.lu
 | succ n ih=>
  intro l r hT h
  simp only[Rd.names]
  refine GK.ite (fun _=>(qv hT _).bind fun s q e g=>GK.ask fun l2 ew=>?_) fun _=>GK.ret h
  have e2:=(dH ew).2
  have h2:q.good=true→cr l2=true∧(l2.length:Int)≤dk:=by
   intro gq
   obtain⟨g0,h3,h4⟩:=g gq
   simp only[decide_eq_true_eq]at h4
   rw[e2]
   exact⟨uU h3 (h g0).1,by simp;omega⟩
  refine(k9 q _).bind fun b q2 e3 g3=>GK.ite (fun _=>(iC q2 _).bind fun u e4 g4=>GK.ret fun gu=>h2 (g3 (g4 gu)).1) fun _=>?_
  exact ih _ _ (by rw[e3,e];exact hT) fun gq2=>h2 (g3 gq2).1
theorem Tv : ∀ (n:Nat) (l:List aB) (r:Rd),mZ r.l→cr l=true→GK r (Rd.labels n l r) fun l=>cr l=true:=by
 intro n
 induction n with
 |zero=>intro l r _ _;simp only[Rd.labels];exact GK.lu
 | succ n ih=>
  intro l r hT h
  simp only[Rd.labels]
  refine GK.ask fun b hb=>GK.ite (fun zc=>?_) fun _=>GK.ret fun _=>h
  refine GK.ask fun t ht=>GK.ask fun l2 ew=>?_
  have hk:t.kind=1:=by
   subst zc
   unfold Rd.ahead at hb
   split at hb
   ·rw [ht,zam]at hb
    split at hb
    ·rename_i hk;simpa using hk
    ·cases hb
   ·cases hb
  refine GK.from (s:= {r with i:=r.i+2}) ?_ rfl rfl
  refine ih _ _ hT ?_
  rw[(dH ew).2]
  exact uU ((Bp hT ht).1 hk) h
theorem CF {a:Ar} (h:a.may=true) : ∀ {l:List Ar},Ar.cJ l=true→Ar.cJ (l++ [a])=true
 | [],_=>by simp[Ar.cJ,h]
 | s::l,hl=>by
  simp only[Ar.cJ,zaH]at hl ⊢
  split at hl
  ·cases hl
  ·rename_i hs
   rw[if_neg hs]
   exact CF h hl
theorem aao {s:aB} (h:isName s=true):Ar.may ⟨true,s,iG⟩=true:=by simp[Ar.may,h,Ex.none,iG]
theorem aap {x:Ex} (h:x.may=true):Ar.may ⟨false,[],x⟩=true:=by simp[Ar.may,h]
theorem Xf {m:Nat} : ∀ (n:Nat) (l:List Ar) (r:Rd),mZ r.l→(r.good=true→Ar.cJ l=true)→GK r (Rd.jk m n l r) fun l=>Ar.cJ l=true:=by
 intro n
 induction n with
 |zero=>intro l r _ _;simp only[Rd.jk];exact GK.lu
 | succ n ih=>
  intro l r hT h
  simp only[Rd.jk]
  refine GK.ite (fun _=>(k9 r _).bind fun b q e g=>GK.ite (fun _=>?_) fun _=>?_) fun _=>GK.ret h
  ·refine(qv (e ▸ hT) _).bind fun s q2 e2 g2=>GK.ask fun l2 ew=> ?_
   refine(k9 q2 _).bind fun c q3 e3 g3=>?_
   have h3:q3.good=true→Ar.cJ l2=true:=fun gg=>by
    rw[(dH ew).2]
    obtain⟨g4,h5,_⟩:=g2 (g3 gg).1
    exact CF (aao h5) (h (g g4).1)
   exact GK.ite (fun _=>GK.ret h3) fun _=>ih _ _ (by rw[e3,e2,e];exact hT) h3
  ·refine(uT (e ▸ hT)).bind fun s q2 e2 g2=>GK.ask fun l2 ew=> ?_
   refine(k9 q2 _).bind fun c q3 e3 g3=>?_
   have h3:q3.good=true→Ar.cJ l2=true:=fun gg=>by
    rw[(dH ew).2]
    obtain⟨g4,h5⟩:=g2 (g3 gg).1
    exact CF (aap h5) (h (g g4).1)
   exact GK.ite (fun _=>GK.ret h3) fun _=>ih _ _ (by rw[e3,e2,e];exact hT) h3
def ze (s:Sm):Prop:=∀ L,cr L=true→({s with labels:=L} : Sm).one=true
theorem yM:iG.none=true:=rfl
theorem GF {s:aB} (h:isName s=true):(s == [])=false:=by cases s;simp[isName]at h;rfl
theorem J2 {id:Int} {name proc:aB} {args:List Ar} (hp:isName proc=true) (hn:name = []∨isName name=true) (ha:Ar.cJ args=true):ze ⟨id,4,[],name,proc,iG,false,args,[],[]⟩:=by
 intro L hL
 rcases hn with rfl|hn
 ·simp[Sm.one,Sm.mg,Sm.hasName,Sm.iI,hL,yM,GF hp,hp,ha]
 ·simp[Sm.one,Sm.mg,Sm.hasName,Sm.iI,hL,yM,GF hp,hp,ha,hn]
theorem PW {id:Int} {name:aB} {x:Ex} (hn:isName name=true) (hx:x.may=true):ze ⟨id,1,[],name,[],x,false,[],[],[]⟩:=by
 intro L hL
 simp[Sm.one,Sm.mg,Sm.hasName,Sm.iI,hL,hn,hx,Ar.cJ]
theorem Tw {id k:Int} (hk:k=2∨k=10) {name:aB} (hn:isName name=true):ze ⟨id,k,[],name,[],iG,false,[],[],[]⟩:=by
 intro L hL
 rcases hk with rfl|rfl<;>simp[Sm.one,Sm.mg,Sm.hasName,Sm.iI,hL,hn,yM,Ar.cJ]
theorem Tx {id:Int} {x:Ex} (hx:x.may=true):ze ⟨id,3,[],[],[],x,false,[],[],[]⟩:=by
 intro L hL
 simp[Sm.one,Sm.mg,Sm.hasName,Sm.iI,hL,hx,Ar.cJ]
theorem CG {id k:Int} (hk:k=7∨k=8∨k=9):ze ⟨id,k,[],[],[],iG,false,[],[],[]⟩:=by
 intro L hL
 rcases hk with rfl|rfl|rfl<;>simp[Sm.one,Sm.mg,Sm.hasName,Sm.iI,hL,yM,Ar.cJ]
theorem PX {id:Int} {x:Ex} (hx:x.may=true):ze ⟨id,9,[],[],[],x,true,[],[],[]⟩:=by
 intro L hL
 simp[Sm.one,Sm.mg,Sm.hasName,Sm.iI,hL,hx,Ar.cJ]
theorem Ty {id:Int} {x:Ex} {bb aR:List Sm} (hx:x.may=true):ze ⟨id,5,[],[],[],x,false,[],bb,aR⟩:=by
 intro L hL
 simp[Sm.one,Sm.mg,Sm.hasName,Sm.iI,hL,hx,Ar.cJ]
theorem Tz {id:Int} {x:Ex} {bb:List Sm} (hx:x.may=true):ze ⟨id,6,[],[],[],x,false,[],bb,[]⟩:=by
 intro L hL
 simp[Sm.one,Sm.mg,Sm.hasName,Sm.iI,hL,hx,Ar.cJ]
theorem Mp {m:Nat} {name proc:aB} {r:Rd} (hT:mZ r.l) (hn:r.good=true→isName proc=true∧(name = []∨isName name=true)):GK r (Rd.call m name proc r) fun s=>ze s∧s.bb = []∧s.aR = []:=by
 unfold Rd.call
 refine(iC r _).bind fun q e g=>GK.ask fun b _=>GK.ite (fun _=>?_) fun _=>?_
 ·refine(Xf _ _ q (e ▸ hT) fun _=>rfl).bind fun a s e2 g2=> ?_
  refine(iC s _).bind fun u e3 g3=>(iC u _).bind fun v e4 g4=>GK.ret fun gv=>?_
  obtain⟨g5,h5⟩:=g2 (g3 (g4 gv))
  obtain⟨h6,h7⟩:=hn (g g5)
  exact⟨J2 h6 h7 h5,rfl,rfl⟩
 ·refine(iC q _).bind fun u e3 g3=>(iC u _).bind fun v e4 g4=>GK.ret fun gv=> ?_
  obtain⟨h6,h7⟩:=hn (g (g3 (g4 gv)))
  exact⟨J2 h6 h7 rfl,rfl,rfl⟩
theorem Xh {m:Nat} {r:Rd} (hT:mZ r.l):GK r (Rd.named m r) fun s=>ze s∧s.bb = []∧s.aR = []:=by
 unfold Rd.named
 refine(qv hT _).bind fun a q e g=>GK.ask fun b _=>GK.ite (fun _=>?_) fun _=>?_
 ·exact Mp (by rw[e];exact hT) fun gq=>⟨(g gq).2.1, .inl rfl⟩
 refine(iC q _).bind fun u e2 g2=>GK.ask fun b _=>GK.ite (fun _=>?_) fun _=>?_
 ·refine(qv (by rw [e2,e];exact hT) _).bind fun c s e3 g3=>Mp (by rw [e3,e2,e];exact hT) fun gs=> ?_
  obtain⟨g4,h4,_⟩:=g3 gs
  exact⟨h4, .inr (g (g2 g4)).2.1⟩
 ·refine(uT (by rw [e2,e];exact hT)).bind fun c s e3 g3=>(iC s _).bind fun v e4 g4=>GK.ret fun gv=> ?_
  obtain⟨g5,h5⟩:=g3 (g4 gv)
  exact⟨PW (g (g2 g5)).2.1 h5,rfl,rfl⟩
def HF (s:aB):Bool:=s == [98,114,101,97,107] ||s == [99,111,110,116,105,110,117,101] ||s == [114,101,116,117,114,110] ||s == [103,111,116,111] ||s == [114,101,97,100] ||s == [112,114,105,110,116]
theorem Xi {m:Nat} {word:aB} (hw:HF word=true) {r:Rd} (hT:mZ r.l):GK r (Rd.plain m word r) fun s=>ze s∧s.bb = []∧s.aR = []:=by
 unfold Rd.plain
 refine GK.ite (fun _=>GK.ret fun _=>⟨CG (.inl rfl),rfl,rfl⟩) fun h1=>GK.ite (fun _=>GK.ret fun _=>⟨CG (.inr (.inl rfl)),rfl,rfl⟩) fun h2=>GK.ite (fun _=>?_) fun h3=>?_
 ·refine GK.ask fun b _=>GK.ite (fun _=> ?_) fun _=>GK.ret fun _=>⟨CG (.inr (.inr rfl)),rfl,rfl⟩
  exact(uT hT).bind fun a s e g=>GK.ret fun gs=>⟨PX (g gs).2,rfl,rfl⟩
 refine GK.ite (fun _=>(qv hT _).bind fun a s e g=>GK.ret fun gs=>⟨Tw (.inr rfl) (g gs).2.1,rfl,rfl⟩) fun h4=>GK.ite (fun _=>(qv hT _).bind fun a s e g=>GK.ret fun gs=>⟨Tw (.inl rfl) (g gs).2.1,rfl,rfl⟩) fun h5=>GK.ite (fun _=>?_) fun h6=>?_
 ·exact(uT hT).bind fun a s e g=>GK.ret fun gs=>⟨Tx (g gs).2,rfl,rfl⟩
 ·exfalso
  simp only[HF,zay]at hw
  rcases hw with ((((hw|hw)|hw)|hw)|hw)|hw
  ·exact h1 hw
  ·exact h2 hw
  ·exact h3 hw
  ·exact h4 hw
  ·exact h5 hw
  ·exact h6 hw
theorem Mq {m:Nat} {r:Rd} (hT:mZ r.l):GK r (Rd.head m r) fun x=>x.may=true:=by
 unfold Rd.head
 refine(iC r _).bind fun q e g=>(uT (by rw[e];exact hT)).bind fun x s e2 g2=>(iC s _).bind fun u e3 g3=>GK.ret fun gu=>(g2 (g3 gu)).2
mutual
def Sm.uV (d:Int):Sm→Prop
 |⟨id,kind,labels,name,proc,x,has,args,bb,aR⟩=>(⟨id,kind,labels,name,proc,x,has,args,bb,aR⟩:Sm).one=true∧d≤12∧Sm.qf (d+1) bb∧Sm.qf (d+1) aR
def Sm.qf (d:Int):List Sm→Prop
 | []=>True
 |s::l=>s.uV d∧Sm.qf d l
end
theorem Sm.TA (d:Int) (s:Sm):s.uV d↔s.one=true∧d≤12∧Sm.qf (d+1) s.bb∧Sm.qf (d+1) s.aR:=by cases s;simp only[Sm.uV]
theorem Sm.J3 {d:Int} {s:Sm} (h:s.uV d) : ∀ {l:List Sm},Sm.qf d l→Sm.qf d (l++ [s])
 | [],_=>⟨h,trivial⟩
 |t::l,hl=>⟨hl.1,Sm.J3 h hl.2⟩
def yN (d:Int) (s:Sm):Prop:=∀ L,cr L=true→({s with labels:=L} : Sm).uV d
theorem yN.of {d:Int} {s:Sm} (h:ze s) (hd:d≤12) (h1:Sm.qf (d+1) s.bb) (h2:Sm.qf (d+1) s.aR):yN d s:=fun L hL=>(Sm.TA _ _).2 ⟨h L hL,hd,h1,h2⟩
theorem Xj {m:Nat} : ∀ n:Nat,
 (∀ (nest:Int) (body:Bool) (r:Rd),mZ r.l→GK r (Rd.rows m n nest body r) fun p=>Sm.qf nest p.1∧cr p.2=true)∧
 (∀ (nest:Int) (body:Bool) (out:List Sm) (r:Rd),mZ r.l→(r.good=true→Sm.qf nest out)→GK r (Rd.dI m n nest body out r) fun p=>Sm.qf nest p.1∧cr p.2=true)∧
 (∀ (nest:Int) (r:Rd),mZ r.l→GK r (Rd.stmt m n nest r) fun s=>yN nest s)∧
 (∀ (nest:Int) (r:Rd),mZ r.l→GK r (Rd.block m n nest r) fun l=>Sm.qf (nest+1) l)∧
 (∀ (nest:Int) (r:Rd),nest≤12→mZ r.l→GK r (Rd.choice m n nest r) fun s=>yN nest s):=by
 intro n
 induction n with
 |zero=>
  refine⟨fun _ _ r _=>?_,fun _ _ _ r _ _=>?_,fun _ r _=>?_,fun _ r _=>?_,fun _ r _ _=>?_⟩
  ·simp only[Rd.rows];exact GK.lu
  ·simp only[Rd.dI];exact GK.lu
  ·simp only[Rd.stmt];exact GK.lu
  ·simp only[Rd.block];exact GK.lu
  ·simp only[Rd.choice];exact GK.lu
 | succ n ih=>
  obtain⟨i1,i2,i3,i4,i5⟩:=ih
  refine⟨fun nest body r hT=>?_,fun nest body out r hT ho=>?_,fun nest r hT=>?_,fun nest r hT=>?_,fun nest r sI hT=>?_⟩
  ·simp only [Rd.rows]
   exact i2 _ _ _ _ hT fun _=>trivial
  ·simp only [Rd.dI]
   refine GK.ite (fun _=>?_) fun hg=>GK.ret fun g=>absurd g hg
   refine(Tv m [] r hT rfl).bind fun ls q e g=>GK.ask fun b _=>GK.ite (fun _=>GK.on _ fun gq=>⟨ho (g gq).1,(g gq).2⟩) fun _=>?_
   refine(i3 nest q (by rw[e];exact hT)).bind fun s u e2 g2=>GK.ask fun o2 h2=>i2 _ _ _ u (by rw[e2,e];exact hT) fun gu=>?_
   obtain⟨g3,h3⟩:=g2 gu
   obtain⟨g4,h4⟩:=g g3
   rw[(dH h2).2]
   exact Sm.J3 (h3 _ h4) (ho g4)
  ·simp only [Rd.stmt]
   refine GK.ask fun b hb=>GK.ite (fun _=>uS (by decide) _ _) fun zc=>GK.ask fun k hk=>?_
   refine GK.from (s:= {r with n:=k}) ?_ rfl rfl
   refine GK.ite (fun _=>uS (by decide) _ _) fun hl=>?_
   have sI:nest≤12:=by
    simp only[zay,decide_eq_true_eq,not_or]at hl;omega
   refine GK.ask fun t ht=>GK.ite (fun _=>(Xh (r:= {r with n:=k}) hT).mono fun s hs=>yN.of hs.1 sI (by rw[hs.2.1];trivial) (by rw[hs.2.2];trivial)) fun fj=>?_
   refine GK.from (s:= {r with n:=k,i:=r.i+1}) ?_ rfl rfl
   refine GK.ite (fun _=>i5 _ _ sI hT) fun hif=>GK.ite (fun _=>?_) fun hwh=>?_
   ·refine GK.bind (Mq (r:= {r with n:=k,i:=r.i+1}) hT) fun x s e g=> ?_
    refine GK.bind (i4 nest s (by rw[e];exact hT)) fun bl u e2 g2=>GK.ret fun gu=>?_
    obtain⟨g3,h3⟩:=g2 gu
    exact yN.of (Tz (g g3).2) sI h3 trivial
   ·have hw:HF t.text=true:=by
     have mB:r.fA=some t:=ht
     unfold Rd.lU at hb
     rw[mB,zam]at hb
     have e1:(t.kind==1)=false:=by simpa using fj
     have e2:(t.text == [105,102])=false:=by simpa using hif
     have e3:(t.text == [119,104,105,108,101])=false:=by simpa using hwh
     have aik:b=true:=by simpa using zc
     rw[aik]at hb
     simp only[e1,e2,e3,zaa,↓reduceIte,zbd,Option.some.injEq]at hb
     split at hb
     ·cases hb
     ·simpa only[HF]using hb
    refine GK.bind (Xi (r:= {r with n:=k,i:=r.i+1}) hw hT) fun s q e g=>?_
    refine Yv.bind (iC q _) fun u e2 g2=>GK.ret fun gu=>?_
    obtain⟨g3,h3,h4,h5⟩:=g (g2 gu)
    exact yN.of h3 sI (by rw[h4];trivial) (by rw[h5];trivial)
  ·simp only [Rd.block]
   refine(iC r _).bind fun q e g=>GK.ask fun k hk=>?_
   have hk:=(vt hk).2
   subst hk
   exact(i1 _ false q (by rw[e];exact hT)).bind fun p u e2 g2=>GK.ret fun gu=>(g2 gu).2.1
  ·simp only [Rd.choice]
   refine(Mq hT).bind fun x q e g=>(i4 nest q (by rw[e];exact hT)).bind fun th s e2 g2=>(k9 s _).bind fun c u e3 g3=>GK.ite (fun _=>?_) fun _=>GK.ret fun gu=>?_
   ·refine(i4 nest u (by rw [e3,e2,e];exact hT)).bind fun el v e4 g4=>GK.ret fun gv=> ?_
    obtain⟨g5,h5⟩:=g4 gv
    obtain⟨g6,h6⟩:=g2 (g3 g5).1
    exact yN.of (Ty (g g6).2) sI h6 h5
   ·obtain⟨g6,h6⟩:=g2 (g3 gu).1
    exact yN.of (Ty (g g6).2) sI h6 trivial
theorem GG {a:Pm} (h:isName a.name=true) : ∀ {l:List Pm},Pm.cJ l=true→Pm.cJ (l++ [a])=true
 | [],_=>by simp[Pm.cJ,h]
 | s::l,hl=>by
  simp only[Pm.cJ,zaH]at hl ⊢
  split at hl
  ·cases hl
  ·rename_i hs
   rw[if_neg hs]
   exact GG h hl
theorem TB : ∀ (n:Nat) (l:List Pm) (r:Rd),mZ r.l→(r.good=true→Pm.cJ l=true∧l.length≤8)→GK r (Rd.params n l r) fun l=>Pm.cJ l=true∧l.length≤8:=by
 intro n
 induction n with
 |zero=>intro l r _ _;simp only[Rd.params];exact GK.lu
 | succ n ih=>
  intro l r hT h
  simp only[Rd.params]
  refine GK.ite (fun _=>(k9 r _).bind fun b q e g=>(qv (by rw[e];exact hT) _).bind fun s q2 e2 g2=>GK.ask fun l2 ew=>(k9 q2 _).bind fun c q3 e3 g3=>?_) fun _=>GK.ret h
  have h3:q3.good=true→Pm.cJ l2=true∧l2.length≤8:=fun gg=>by
   rw[(dH ew).2]
   obtain⟨g4,h5,h6⟩:=g2 (g3 gg).1
   simp only[decide_eq_true_eq]at h6
   exact⟨GG h5 (h (g g4).1).1,by simp;omega⟩
  exact GK.ite (fun _=>GK.ret h3) fun _=>ih _ _ (by rw[e3,e2,e];exact hT) h3
theorem aaq {m:Nat} : ∀ (n:Nat) (l:List aB) (r:Rd),mZ r.l→(r.good=true→cr l=true∧(l.length:Int)≤16)→GK r (Rd.vars m n l r) fun l=>cr l=true∧(l.length:Int)≤16:=by
 intro n
 induction n with
 |zero=>intro l r _ _;simp only[Rd.vars];exact GK.lu
 |succ n ih=>
  intro l r hT h
  simp only[Rd.vars]
  refine(k9 r _).bind fun b q e g=>GK.ite (fun _=>?_) fun _=>GK.ret fun gq=>h (g gq).1
  exact(J1 _ _ _ (by rw[e];exact hT) fun gq=>h (g gq).1).bind fun l2 q2 e2 g2=>ih _ _ (by rw[e2,e];exact hT) fun gg=>(g2 gg).2
theorem PY {m:Nat} : ∀ (n:Nat) (l:List aB) (r:Rd),mZ r.l→(r.good=true→cr l=true∧(l.length:Int)≤16)→GK r (Rd.globals m n l r) fun l=>cr l=true∧(l.length:Int)≤16:=by
 intro n
 induction n with
 |zero=>intro l r _ _;simp only[Rd.globals];exact GK.lu
 |succ n ih=>
  intro l r hT h
  simp only[Rd.globals]
  refine(k9 r _).bind fun b q e g=>GK.ite (fun _=>?_) fun _=>GK.ret fun gq=>h (g gq).1
  exact(J1 _ _ _ (by rw[e];exact hT) fun gq=>h (g gq).1).bind fun l2 q2 e2 g2=>ih _ _ (by rw[e2,e];exact hT) fun gg=>(g2 gg).2
structure Pc.uV (f:Pc):Prop where
 name:isName f.name=true
 params:Pm.cJ f.params=true∧f.params.length≤8
 vars:cr f.vars=true∧(f.vars.length:Int)≤16
 fin:cr f.fin=true
 body:Sm.qf 1 f.body
theorem J4 {m:Nat} {name:aB} {ps:List Pm} {r:Rd} (hT:mZ r.l) (h:r.good=true→isName name=true∧Pm.cJ ps=true∧ps.length≤8):GK r (Rd.jB m name ps r) Pc.uV:=by
 unfold Rd.jB
 refine(aaq m [] r hT fun _=>⟨rfl,by simp⟩).bind fun v q e g=>((Xj m).1 1 true q (by rw[e];exact hT)).bind fun b s e2 g2=>GK.ret fun gs=>?_
 obtain⟨g3,h3,h4⟩:=g2 gs
 obtain⟨g5,h5⟩:=g g3
 obtain⟨h6,h7⟩:=h g5
 exact⟨h6,h7,h5,h4,h3⟩
theorem aar {m:Nat} {r:Rd} (hT:mZ r.l):GK r (Rd.proc m r) Pc.uV:=by
 unfold Rd.proc
 refine(qv hT _).bind fun x q e g=>(iC q _).bind fun u e2 g2=>GK.ask fun b _=>GK.ite (fun _=>?_) fun _=>?_
 ·refine(TB _ _ u (by rw [e2,e];exact hT) fun _=>⟨rfl,by simp⟩).bind fun ps s e3 g3=>(iC s _).bind fun v e4 g4=>(iC v _).bind fun w e5 g5=>J4 (by rw [e5,e4,e3,e2,e];exact hT) fun gw=> ?_
  obtain⟨g6,h6⟩:=g3 (g4 (g5 gw))
  exact⟨(g (g2 g6)).2.1,h6⟩
 ·refine(iC u _).bind fun v e4 g4=>(iC v _).bind fun w e5 g5=>J4 (by rw [e5,e4,e2,e];exact hT) fun gw=> ?_
  exact⟨(g (g2 (g4 (g5 gw)))).2.1,rfl,by simp⟩
theorem Xk {m:Nat} : ∀ (n:Nat) (l:List Pc) (r:Rd),mZ r.l→(r.good=true→(∀ f∈l,Pc.uV f)∧l.length≤16)→GK r (Rd.procs m n l r) fun l=>(∀ f∈l,Pc.uV f)∧l.length≤16:=by
 intro n
 induction n with
 |zero=>intro l r _ _;simp only[Rd.procs];exact GK.lu
 | succ n ih=>
  intro l r hT h
  simp only[Rd.procs]
  refine GK.ask fun b _=>GK.ite (fun _=>GK.ite (fun _=>uS (by decide) _ _) fun GD=>?_) fun _=>GK.ask fun b _=>GK.ite (fun _=>uS (by decide) _ _) fun _=>GK.ret h
  refine GK.from (s:= {r with i:=r.i+1}) ?_ rfl rfl
  refine GK.bind (f:=fun x=>(push 113 l x.1).bind fun l=>Rd.procs m n l x.2) (aar hT) fun f q e g=>GK.ask fun l2 ew=>ih _ _ (by rw[e];exact hT) fun gq=>?_
  obtain⟨g2,h2⟩:=g gq
  obtain⟨h3,h4⟩:=h g2
  rw[(dH ew).2]
  refine⟨fun x hx=>?_, ?_⟩
  ·rcases zaB.1 hx with hx | hx
   ·exact h3 x hx
   ·simp at hx;subst hx;exact h2
  ·have:l.length≠16:=by intro e;simp [e]at GD
   simp;omega
theorem PZ {m:Nat} {r:Rd} (hT:mZ r.l):GK r (Rd.program m r) fun p=>cr p.globals=true∧(p.globals.length:Int)≤16∧(∀ f∈p.procs,Pc.uV f)∧p.procs.length≤16:=by
 unfold Rd.program
 refine(PY m [] r hT fun _=>⟨rfl,by simp⟩).bind fun gl q e g=>(Xk m [] q (by rw[e];exact hT) fun _=>⟨by simp,by simp⟩).bind fun ps s e2 g2=>GK.ret fun gs=>?_
 obtain⟨g3,h3⟩:=g2 gs
 exact⟨(g g3).2.1,(g g3).2.2,h3⟩
mutual
theorem Sm.Mr (b:Bool) (n:Nat) : ∀ s:Sm,(Sm.num b n s).2=n+s.fk
 |⟨_,_,_,_,_,_,_,_,bb,aR⟩=>by
  simp only[Sm.num,Sm.fk]
  rw[Sm.qg b _ aR,Sm.qg b _ bb];omega
theorem Sm.qg (b:Bool) (n:Nat) : ∀ l:List Sm,(Sm.b7 b n l).2=n+Sm.dE l
 | []=>rfl
 |s::l=>by
  simp only[Sm.b7,Sm.dE]
  rw[Sm.qg b _ l,Sm.Mr b _ s];omega
end
theorem Sm.one_num (b:Bool) (n:Nat) (s:Sm):((Sm.num b n s).1).one=s.one:=by
 obtain⟨id,kind,labels,name,proc,x,has,args,bb,aR⟩:=s
 simp only[Sm.num,Sm.one,Sm.mg,Sm.hasName,Sm.iI,Sm.e9]
 rfl
def rj (n:Nat) (kH:List It):Prop:=∀ (j:Nat) (it:It),kH[j]? = some it→it.s.id=((n+j+1:Nat):Int)∧it.deep≤12∧it.s.one=true
theorem rj.app {n k:Nat} {a b:List It} (ha:rj n a) (hk:a.length=k) (hb:rj (n+k) b):rj n (a++b):=by
 intro j it h
 rcases zaF j a.length with hj|hj
 ·rw [zar hj]at h
  exact ha j it h
 ·rw [zav hj]at h
  obtain⟨h1,h2⟩:=hb _ it h
  refine⟨?_,h2⟩
  rw[h1];congr 1;omega
theorem rj.nil (n:Nat):rj n []:=fun j it h=>by simp at h
mutual
theorem TC : ∀ (s:Sm) (n:Nat) (deep bF:Int) (aR:Bool) (out:List It),s.uV deep→out.length+s.fk≤200→∃ kH,ff deep bF aR out (Sm.num true n s).1=out++kH∧kH.length=s.fk∧rj n kH
 | ⟨id,kind,labels,name,proc,x,has,args,bb,e⟩,n,deep,bF,aR,out,h,hc=>by
  have h0:=(Sm.TA _ _).1 h
  obtain⟨h1,h2,h3,h4⟩:=h0
  dsimp only at h3 h4
  have fF:=Sm.one_num true n ⟨id,kind,labels,name,proc,x,has,args,bb,e⟩
  simp only[Sm.num,↓reduceIte,ff]at fF ⊢
  rw[h1]at fF
  simp only[Sm.fk]at hc
  have hd:decide (deep≤12)=true:=by simp;omega
  simp only[hd,↓reduceIte]
  obtain⟨i1,e1,l1,p1⟩:=vZ bb (n+1) (deep+1) ((n+1:Nat):Int) false (out++ [⟨⟨((n+1:Nat):Int),kind,labels,name,proc,x,has,args,(Sm.b7 true (n+1) bb).1,(Sm.b7 true (Sm.b7 true (n+1) bb).2 e).1⟩,deep,bF,aR⟩]) h3 (by simp;omega)
  rw[e1,Sm.qg]
  obtain⟨i2,e2,l2,p2⟩:=vZ e (n+1+Sm.dE bb) (deep+1) ((n+1:Nat):Int) true (out++ [⟨⟨((n+1:Nat):Int),kind,labels,name,proc,x,has,args,(Sm.b7 true (n+1) bb).1,(Sm.b7 true (n+1+Sm.dE bb) e).1⟩,deep,bF,aR⟩]++i1) h4 (by simp;omega)
  rw[e2]
  rw[Sm.qg]at fF
  refine⟨_,by rw[zaD,zaD], ?_, ?_⟩
  ·simp only[zak,zal,zax,Sm.fk];omega
  ·refine rj.app (k:=1) ?_ rfl (rj.app p1 l1 p2)
   intro j it hj
   cases j with
   |zero=>simp at hj;subst hj;exact⟨rfl,h2,fF⟩
   |succ j=>simp at hj
theorem vZ : ∀ (l:List Sm) (n:Nat) (deep bF:Int) (aR:Bool) (out:List It),Sm.qf deep l→out.length+Sm.dE l≤200→∃ kH,cW deep bF aR out (Sm.b7 true n l).1=out++kH∧kH.length=Sm.dE l∧rj n kH
 | [],n,deep,bF,aR,out,h,hc=>⟨[],by simp only[Sm.b7,cW,zaJ],rfl,rj.nil n⟩
 |s::l,n,deep,bF,aR,out,h,hc=>by
  simp only[Sm.dE]at hc
  have hle:decide ((out.length:Int)≤200)=true:=by simp only[decide_eq_true_eq];omega
  simp only[Sm.b7,cW,hle,↓reduceIte]
  obtain⟨i1,e1,l1,p1⟩:=TC s n deep bF aR out h.1 (by omega)
  rw[e1,Sm.Mr]
  obtain⟨i2,e2,l2,p2⟩:=vZ l (n+s.fk) deep bF aR (out++i1) h.2 (by simp;omega)
  rw[e2]
  exact⟨i1++i2,by rw[zaD],by simp only[zak,Sm.dE];omega,rj.app p1 l1 p2⟩
end
def Pc.v7:List Pc→Nat
 | []=>0
 |f::l=>Sm.dE f.body+Pc.v7 l
theorem J5 : ∀ (l:List Pc) (n:Nat) (out:List It),(∀ f∈l,f.uV)→out.length+Pc.v7 l≤200→∃ kH,allM out (Pc.b7 n l)=out++kH∧kH.length=Pc.v7 l∧rj n kH
 | [],n,out,_,_=>⟨[],by simp only[Pc.b7,allM,zaJ],rfl,rj.nil n⟩
 |f::l,n,out,h,hc=>by
  simp only[Pc.v7]at hc
  obtain⟨i1,e1,l1,p1⟩:=vZ f.body n 1 0 false [] (h f (zaE ..)).body (by simp;omega)
  have ef:Pc.flat {f with body:=(Sm.b7 true n f.body).1} = i1:=by simp only[Pc.flat];rw[e1];rfl
  have hle:decide (((out++i1).length:Int) > 200)=false:=by simp only[zak,decide_eq_false_iff_not];omega
  simp only[Pc.b7,allM,ef,hle,zaa,↓reduceIte]
  rw[Sm.qg]
  obtain⟨i2,e2,l2,p2⟩:=J5 l (n+Sm.dE f.body) (out++i1) (fun g hg=>h g (zaA _ hg)) (by simp;omega)
  rw[e2]
  exact⟨i1++i2,by rw[zaD],by simp only[zak,Pc.v7];omega,rj.app p1 l1 p2⟩
theorem rj.cJ : ∀ (l:List It) (n:Nat),rj n l→It.cJ n l=true
 | [],_,_=>rfl
 |i::l,n,h=>by
  obtain⟨h1,h2,h3⟩:=h 0 i rfl
  have e1:(i.s.id != ((n+1:Nat):Int))=false:=by rw[h1];simp
  have e2:decide (i.deep > 12)=false:=by simp;omega
  simp only[It.cJ,e1,e2,h3,zan,zbz,zaa,↓reduceIte]
  refine rj.cJ l (n+1) fun j it hj=>?_
  have:=h (j+1) it (by simpa using hj)
  refine⟨?_,this.2⟩
  rw[this.1];congr 1;omega
theorem GH : ∀ (l:List Pc) (n:Nat),(∀ f∈l,f.uV)→Pc.kz (Pc.b7 n l)=true
 | [],_,_=>rfl
 |f::l,n,h=>by
  have k:=h f (zaE ..)
  have e1:decide ((f.params.length:Int) > 8)=false:=by have:=k.params.2;simp only[decide_eq_false_iff_not];omega
  have e2:decide ((f.vars.length:Int) > 16)=false:=by have:=k.vars.2;simp only[decide_eq_false_iff_not];omega
  simp only[Pc.b7,Pc.kz,k.name,e1,e2,k.vars.1,k.fin,k.params.1,zan,zbz,zaa,↓reduceIte]
  exact GH l _ fun g hg=>h g (zaA _ hg)
theorem Pc.Ms : ∀ (l:List Pc) (n:Nat),(Pc.b7 n l).length=l.length
 | [],_=>rfl
 |g::l,n=>by simp only[Pc.b7,zal,Pc.Ms l]
theorem P0 {p:Pg} (h1:cr p.globals=true) (h2:(p.globals.length:Int)≤16) (h3 : ∀ f∈p.procs,f.uV) (h4:p.procs.length≤16) (h5:Pc.v7 p.procs≤200):p.number.may=true∧p.number.all.length=Pc.v7 p.procs:=by
 obtain⟨kH,e,hl,hi⟩:=J5 p.procs 0 [] h3 (by simpa using h5)
 have ea:p.number.all=kH:=by simp only[Pg.all,Pg.number];rw[e];rfl
 have e1:decide ((p.globals.length:Int) > 16)=false:=by simp only[decide_eq_false_iff_not];omega
 have e2:decide (((Pc.b7 0 p.procs).length:Int) > 16)=false:=by rw[Pc.Ms];simp only[decide_eq_false_iff_not];omega
 have e3:decide ((kH.length:Int) > 200)=false:=by simp only[decide_eq_false_iff_not];omega
 refine⟨?_,by rw[ea,hl]⟩
 have e0:p.number.may=(if decide ((p.globals.length:Int) > 16) ||decide (((Pc.b7 0 p.procs).length:Int) > 16) || !(cr p.globals)then false
  else if !(Pc.kz (Pc.b7 0 p.procs))then false else if decide ((p.number.all.length:Int) > 200)then false else It.cJ 0 p.number.all):=rfl
 rw[e0,ea]
 simp only[e1,e2,h1,GH _ 0 h3,e3,zan,zbz,zaa,↓reduceIte]
 exact rj.cJ kH 0 hi
theorem aas {m:Nat} : ∀ (n:Nat) (l:List Pc) (r0 r:Rd),(r.good=true→r.n=Pc.v7 l∧r.n≤200)→∀ p,Rd.procs m n l r=some p→p.2.good=true→p.2.n=Pc.v7 p.1∧p.2.n≤200:=by
 have aat : ∀ (l:List Pc) (f:Pc),Pc.v7 (l++ [f])=Pc.v7 l+Sm.dE f.body:=by
  intro l f
  induction l with
  |nil=>simp[Pc.v7]
  |cons g l ih=>simp only[zaH,Pc.v7,ih];omega
 intro n
 induction n with
 |zero=>intro l r0 r _ p h;simp only[Rd.procs]at h;cases h
 | succ n ih=>
  intro l r0 r h0 p h hg
  simp only[Rd.procs]at h
  rw[zab]at h
  obtain⟨b,h1,h⟩:=h
  split at h
  ·split at h
   ·rw [zab]at h
    obtain⟨q,h2,h⟩:=h
    have:=(HE (by decide) q h2).2
    cases h
    rw[this]at hg;cases hg
   ·rw [zab]at h
    obtain⟨x,h2,h⟩:=h
    rw[zab]at h
    obtain⟨l2,h3,h⟩:=h
    refine ih l2 r0 x.2 (fun gx=>?_) p h hg
    have ew:=(dH h3).2
    -- what the procedure counted
    have key : ∀ (r:Rd) (x:Pc×Rd),Rd.proc m r=some x→lq r (Sm.b7 true r.n x.1.body).2 x.2:=by
     intro r x hx
     unfold Rd.proc at hx
     have pb : ∀ {name:aB} {ps:List Pm} {s:Rd},df r s→Pt (Rd.jB m name ps s) fun p=>lq r (Sm.b7 true r.n p.1.body).2 p.2:=by
      intro name ps s hs
      unfold Rd.jB
      have vk : ∀ (n:Nat) (l:List aB) (s:Rd),df r s→Pt (Rd.vars m n l s) (fun p=>df r p.2):=by
       intro n
       induction n with
       |zero=>intro l s _;simp only[Rd.vars];exact Pt.none
       |succ n ih=>
        intro l s h
        simp only[Rd.vars]
        exact(ie h _).bind fun q hq=>Pt.ite (fun _=>(xY _ _ _ hq).bind fun x hx=>ih _ _ hx) fun _=>Pt.some hq
      refine(vk m [] s hs).bind fun v hv=>((nW m).1 _ _ _).bind fun b hb=>Pt.some ?_
      dsimp only
      rw[← hv.n]
      exact((lq.refl r).keep hv).trans hb
     have pk : ∀ (n:Nat) (l:List Pm) (s:Rd),df r s→Pt (Rd.params n l s) (fun p=>df r p.2):=by
      intro n
      induction n with
      |zero=>intro l s _;simp only[Rd.params];exact Pt.none
      |succ n ih=>
       intro l s h
       simp only[Rd.params]
       exact Pt.ite (fun _=>(ie h _).bind fun q hq=>(nR hq _).bind fun x hx=>Pt.any fun l=>(ie hx _).bind fun c hc=>Pt.ite (fun _=>Pt.some hc) fun _=>ih _ _ hc) fun _=>Pt.some h
     refine((nR (df.refl r) true).bind (R:=fun p:Pc×Rd=>lq r (Sm.b7 true r.n p.1.body).2 p.2) fun x hx=>(dS hx _).bind fun r1 h1=>Pt.any fun b=>Pt.ite (fun _=>?_) fun _=>?_) x hx
     ·exact(pk _ _ _ h1).bind fun q hq=>(dS hq _).bind fun r hr=>(dS hr _).bind fun r hr=>pb hr
     ·exact(dS h1 _).bind fun r hr=>(dS hr _).bind fun r hr=>pb hr
    have hn:=key _ _ h2
    obtain⟨e1,e2⟩:=h0 (hn.g gx)
    have e3:=hn.n gx
    rw[Sm.qg]at e3
    dsimp only at e3
    rw[ew,aat]
    exact⟨by omega,hn.le gx e2⟩
  ·rw [zab]at h
   obtain⟨b2,h2,h⟩:=h
   split at h
   ·rw [zab]at h
    obtain⟨q,h3,h⟩:=h
    have:=(HE (by decide) q h3).2
    cases h
    rw[this]at hg;cases hg
   ·cases h
    exact h0 hg
theorem TD {m:Nat} {r:Rd} (h0:r.n=0) {p:Pg×Rd} (h:Rd.program m r=some p) (hg:p.2.good=true):p.2.n=Pc.v7 p.1.procs∧p.2.n≤200:=by
 unfold Rd.program at h
 rw[zab]at h
 obtain⟨g,h1,h⟩:=h
 rw[zab]at h
 obtain⟨q,h2,h⟩:=h
 cases h
 have gk : ∀ (n:Nat) (l:List aB) (s:Rd),df r s→Pt (Rd.globals m n l s) (fun p=>df r p.2):=by
  intro n
  induction n with
  |zero=>intro l s _;simp only[Rd.globals];exact Pt.none
  |succ n ih=>
   intro l s h
   simp only[Rd.globals]
   exact(ie h _).bind fun q hq=>Pt.ite (fun _=>(xY _ _ _ hq).bind fun x hx=>ih _ _ hx) fun _=>Pt.some hq
 have kg:=gk m [] r (df.refl r) _ h1
 exact aas m [] r g.2 (fun _=>by rw[kg.n,h0];exact⟨rfl,by omega⟩) q h2 hg
theorem Li {m:Nat} {l:List bN} (hT:mZ l) {P:Pg×Rd} (h:Rd.program m (q8 l)=some P) (hg:P.2.good=true):P.1.number.may=true∧P.1.number.all.length=P.2.n∧P.2.n≤200:=by
 obtain⟨_,g⟩:=PZ (r:=q8 l) hT P h
 obtain⟨_,h1,h2,h3,h4⟩:=g hg
 obtain⟨e,h5⟩:=TD (r:=q8 l) rfl h hg
 obtain⟨h6,h7⟩:=P0 h1 h2 h3 h4 (by omega)
 exact⟨h6,by rw[h7,e],h5⟩
def isR (c:UInt8):Bool:=(c.toNat:Int)==35
inductive Lx:Nat→aB→List bN→Prop where
 |nil (pos:Nat):Lx pos [] []
 |blank (pos:Nat) (c:UInt8) (r:aB) (l:List bN) (h:qm c=true) (k:Lx (pos+1) r l):Lx pos (c::r) l
 |rem (pos:Nat) (c:UInt8) (r:aB) (l:List bN) (h:qm c=false) (h2:isR c=true) (k:Lx (pos+gF (c::r)) ((c::r).drop (gF (c::r))) l):Lx pos (c::r) l
 |tok (pos:Nat) (c:UInt8) (r:aB) (t:bN) (l:List bN) (h:qm c=false) (h2:isR c=false) (ht:fV pos (c::r) = .inl t) (k:Lx (pos+t.text.length) ((c::r).drop t.text.length) l):Lx pos (c::r) (t::l)
theorem J6 : ∀ s:aB,gF s≤s.length
 | []=>zaj _
 |c::r=>by simp only[gF,zal];split;have:=J6 r;omega;omega
theorem Xl : ∀ s:aB,kv s≤s.length
 | []=>zaj _
 | [c]=>by simp only[kv];split<;>simp
 |c::d::r=>by simp only[kv,zal];split;omega;split;omega;omega
theorem AT {pos:Nat} {s:aB} {t:bN} (h:fV pos s = .inl t):t.pos=pos∧0<t.text.length∧∃ rest,s=t.text++rest:=by
 cases s with
 |nil=>simp only[fV]at h;cases h
 | cons c r=>
  simp only[fV]at h
  cases hL:lG c
  ·simp only [hL,zaa, ↓reduceIte]at h
   cases hD:iH c
   ·simp only [hD,zaa, ↓reduceIte]at h
    split at h
    ·cases h
    ·cases h
     have:=Xl (c::r)
     exact⟨rfl,by simp only[zaL];simp only[zal]at this ⊢;omega,(c::r).drop (kv (c::r)),by simp⟩
   ·have k0:0<iY (c::r):=by simp [iY,hD]
    simp only[hD,↓reduceIte]at h
    split at h
    ·cases h
    ·split at h
     ·cases h
      exact⟨rfl,by simp only[zaL,zal];omega,(c::r).drop (iY (c::r)),by simp⟩
     ·cases h
  ·have k0:0<fu (c::r):=by simp [fu,hL]
   simp only[hL,↓reduceIte]at h
   split at h
   ·cases h
   ·cases h
    exact⟨rfl,by simp only[zaL,zal];omega,(c::r).drop (fu (c::r)),by simp⟩
theorem aav {pos:Nat} {s:aB} {e:Int} (h:fV pos s = .inr e):e=2∨e=4:=by
 cases s with
 |nil=>simp only[fV]at h;cases h;exact .inl rfl
 |cons c r=>
  simp only[fV]at h
  repeat' split at h
  all_goals first|(cases h;simp;done)|cases h
theorem aaw {pos:Nat} {s:aB} {t:bN} (h:fV pos s = .inl t):t.text.length≤s.length:=by
 obtain⟨_,_,rest,e⟩:=AT h
 rw[e];simp
theorem aax {pos:Nat} {s:aB} {l:List bN} (h:Lx pos s l) : ∀ (n:Nat) (out:List bN),s.length<n→out.length+l.length≤2000→fR n pos s out=(out++l++ [⟨0,[],0,(pos+s.length:Nat)⟩],0,0):=by
 induction h with
 |nil pos=>
  intro n out hn ho
  cases n with
  |zero=>omega
  |succ n=>simp[fR]
 | blank pos c r l h k ih=>
  intro n out hn ho
  cases n with
  |zero=>omega
  |succ n=>
   simp only[zal]at hn
   simp only[fR,h,↓reduceIte]
   rw[ih n out (by omega) ho]
   simp only[zal]
   have:pos+1+r.length=pos+(r.length+1):=by omega
   rw[this]
 | rem pos c r l h h2 k ih=>
  intro n out hn ho
  cases n with
  |zero=>omega
  | succ n=>
   have h3:((c.toNat:Int)==35)=true:=h2
   simp only[fR,h,h3,zaa,↓reduceIte]
   have hp:0<gF (c::r):=by
    have:((c.toNat:Int) != 10)=true:=by simp only[beq_iff_eq]at h3;simp[h3]
    simp[gF,this]
   have hle:=J6 (c::r)
   rw[ih n out (by rw[zaI];omega) ho]
   have:pos+gF (c::r)+((c::r).drop (gF (c::r))).length=pos+(c::r).length:=by rw[zaI];omega
   rw[this]
 | tok pos c r t l h h2 ht k ih=>
  intro n out hn ho
  cases n with
  |zero=>omega
  |succ n=>
   have h3:((c.toNat:Int)==35)=false:=h2
   simp only[zal]at ho
   have eF : ¬ out.length=2000:=by omega
   simp only[fR,h,h3,zaa,↓reduceIte,ht,if_neg eF]
   obtain⟨_,hp,_⟩:=AT ht
   have hle:=aaw ht
   rw[ih n _ (by rw[zaI];omega) (by simp;omega)]
   have:pos+t.text.length+((c::r).drop t.text.length).length=pos+(c::r).length:=by rw[zaI];omega
   rw[this]
   simp
theorem afH : ∀ (n pos:Nat) (s:aB) (out:List bN),s.length<n→(fR n pos s out).2.1=0→out.length≤2000→∃ l,Lx pos s l∧out.length+l.length≤2000:=by
 intro n
 induction n with
 |zero=>intro pos s out hn;omega
 | succ n ih=>
  intro pos s out hn h ho
  cases s with
  |nil=>exact⟨[], .nil _,by simpa using ho⟩
  | cons c r=>
   simp only[zal]at hn
   simp only[fR]at h
   cases hb:qm c
   ·simp only [hb,zaa, ↓reduceIte]at h
    cases h3:((c.toNat:Int)==35)
    ·simp only [h3,zaa, ↓reduceIte]at h
     cases ht:fV pos (c::r)with
     |inr e=>simp only[ht]at h;have:=aav ht;omega
     | inl t=>
      simp only[ht]at h
      split at h
      ·cases h
      ·rename_i h2
       obtain⟨_,hp,_⟩:=AT ht
       obtain⟨l,hl,hlen⟩:=ih _ _ _ (by rw[zaI,zal];omega) h (by simp;omega)
       refine⟨t::l, .tok _ _ _ _ _ hb h3 ht hl, ?_⟩
       simp only[zak,zal,zax]at hlen ⊢
       omega
    ·simp only [h3, ↓reduceIte]at h
     have hp:0<gF (c::r):=by
      have:((c.toNat:Int) != 10)=true:=by simp only[beq_iff_eq]at h3;simp[h3]
      simp[gF,this]
     obtain⟨l,hl,hlen⟩:=ih _ _ _ (by rw[zaI,zal];omega) h ho
     exact⟨l, .rem _ _ _ _ hb h3 hl,hlen⟩
   ·simp only [hb, ↓reduceIte]at h
    obtain⟨l,hl,hlen⟩:=ih _ _ _ (by omega) h ho
    exact⟨l, .blank _ _ _ _ hb hl,hlen⟩
def J7 (n:Nat):bN:=⟨0,[],0,(n:Nat)⟩
theorem TE {s:aB} {l:List bN} (h:Lx 0 s l) (hs:s.length≤100000) (hl:l.length≤2000):eX s=(l++ [J7 s.length],0,0):=by
 unfold eX
 rw[if_neg (by omega),aax h _ _ (zac _) (by simpa using hl)]
 simp[J7]
theorem TF {s:aB} (h:(eX s).2.1=0) : ∃ l,Lx 0 s l∧s.length≤100000∧l.length≤2000∧eX s=(l++ [J7 s.length],0,0):=by
 unfold eX at h
 split at h
 ·cases h
 ·rename_i hs
  obtain⟨l,hl,hlen⟩:=afH _ _ _ _ (zac _) h (zau _)
  have hlen:l.length≤2000:=by simpa using hlen
  exact⟨l,hl,by omega,hlen,TE hl (by omega) hlen⟩
def afI (c:UInt8):Bool:= !(lG c) && !(iH c) && !(c==61) && !(c==38) && !(c==124)
def Stop:aB→Prop
 | []=>True
 |c::_=>afI c=true
def ak4 (t:bN):Prop:=0<t.text.length∧∀ (p:Nat) (b:aB),Stop b→fV p (t.text++b) = .inl {t with pos:=(p:Nat)}
structure BW (t t':bN):Prop where
 k:t'.kind=t.kind
 x:t'.text=t.text
 n:t'.n=t.n
def Quiet (t:bN):Prop:=t.kind=0∨t.kind=4∧t.text = [125]
def pS (t:bN):Prop:=t.kind=0∨t.kind=3∧t.text = [112,114,111,99]
structure Env (l l':List bN) (N:Nat) (A:Prop):Prop where
 low : ∀ (i:Nat) (t:bN),l[i]? = some t→(A∨i<N)→∃ t',l'[i]? = some t'∧BW t t'
 at' : ¬ A→∃ t t',l[N]? = some t∧l'[N]? = some t'∧Quiet t∧pS t'
section
variable {l l':List bN} {N:Nat} {A:Prop}
structure Xm (l l':List bN) (r r':Rd):Prop where
 el:r.l=l
 Eh:r'.l=l'
 ei:r'.i=r.i
 en:r'.n=r.n
 ec:r'.code=r.code
 ef:r.code=0∨(r.code=3∨r.code=4)∧∃ (j:Nat) (t t':bN),l[j]? = some t∧l'[j]? = some t'∧r.gE=t.pos∧r'.gE=t'.pos
def na (N:Nat) (A:Prop) (r:Rd):Prop:=A∨r.good=true∧r.i≤N
def SR (l l':List bN) (N:Nat) (A:Prop) (r r':Rd):Prop:=na N A r→Xm l l' r r'
def bE {α:Type} (l l':List bN) (N:Nat) (A:Prop) (r:Rd) (o o':Option (α×Rd)):Prop:=
 ∀ p,o=some p→r.i≤p.2.i∧(p.2.good=true→r.good=true)∧(na N A p.2→∃ q',o'=some (p.1,q')∧Xm l l' p.2 q')
theorem na.back {r q:Rd} (h:na N A q) (hi:r.i≤q.i) (hg:q.good=true→r.good=true):na N A r:=by
 rcases h with h|h
 ·exact .inl h
 ·exact .inr ⟨hg h.1,zaN hi h.2⟩
theorem bE.bind {α β:Type} {r:Rd} {o o':Option (α×Rd)} {f f':α×Rd→Option (β×Rd)} (h:bE l l' N A r o o') (k : ∀ a q q',SR l l' N A q q'→bE l l' N A q (f (a,q)) (f' (a,q'))) :
 bE l l' N A r (o.bind f) (o'.bind f'):=by
 intro p hp
 rw[zab]at hp
 obtain⟨⟨a,q⟩,h1,h2⟩:=hp
 obtain⟨m1,m2,m3⟩:=h _ h1
 dsimp only at m1 m2 m3
 by_cases hc:na N A q
 ·obtain⟨q',e,rel⟩:=m3 hc
  obtain⟨n1,n2,n3⟩:=k a q q' (fun _=>rel) _ h2
  refine⟨zaN m1 n1,fun g=>m2 (n2 g),fun c=>?_⟩
  obtain⟨s',e2,J9⟩:=n3 c
  exact⟨s',by rw[e];exact e2,J9⟩
 ·obtain⟨n1,n2,n3⟩:=k a q q (fun c=>absurd c hc) _ h2
  exact⟨zaN m1 n1,fun g=>m2 (n2 g),fun c=>absurd (c.back n1 n2) hc⟩
def rk (l l':List bN) (N:Nat) (A:Prop) (r:Rd) (o o':Option Rd):Prop:=
 ∀ p,o=some p→r.i≤p.i∧(p.good=true→r.good=true)∧(na N A p→∃ q',o'=some q'∧Xm l l' p q')
theorem rk.bind {β:Type} {r:Rd} {o o':Option Rd} {f:Rd→Option (β×Rd)} (h:rk l l' N A r o o') (k : ∀ q q',SR l l' N A q q'→bE l l' N A q (f q) (f q')) :
 bE l l' N A r (o.bind f) (o'.bind f):=by
 intro p hp
 rw[zab]at hp
 obtain⟨q,h1,h2⟩:=hp
 obtain⟨m1,m2,m3⟩:=h _ h1
 by_cases hc:na N A q
 ·obtain⟨q',e,rel⟩:=m3 hc
  obtain⟨n1,n2,n3⟩:=k q q' (fun _=>rel) _ h2
  refine⟨zaN m1 n1,fun g=>m2 (n2 g),fun c=>?_⟩
  obtain⟨s',e2,J9⟩:=n3 c
  exact⟨s',by rw[e];exact e2,J9⟩
 ·obtain⟨n1,n2,n3⟩:=k q q (fun c=>absurd c hc) _ h2
  exact⟨zaN m1 n1,fun g=>m2 (n2 g),fun c=>absurd (c.back n1 n2) hc⟩
theorem bE.afJ {α:Type} {r:Rd} {o o':Option (α×Rd)} {f:α×Rd→Option Rd} (h:bE l l' N A r o o') (k : ∀ a q q',SR l l' N A q q'→rk l l' N A q (f (a,q)) (f (a,q'))) :
 rk l l' N A r (o.bind f) (o'.bind f):=by
 intro p hp
 rw[zab]at hp
 obtain⟨⟨a,q⟩,h1,h2⟩:=hp
 obtain⟨m1,m2,m3⟩:=h _ h1
 dsimp only at m1 m2 m3
 by_cases hc:na N A q
 ·obtain⟨q',e,rel⟩:=m3 hc
  obtain⟨n1,n2,n3⟩:=k a q q' (fun _=>rel) _ h2
  refine⟨zaN m1 n1,fun g=>m2 (n2 g),fun c=>?_⟩
  obtain⟨s',e2,J9⟩:=n3 c
  exact⟨s',by rw[e];exact e2,J9⟩
 ·obtain⟨n1,n2,n3⟩:=k a q q (fun c=>absurd c hc) _ h2
  exact⟨zaN m1 n1,fun g=>m2 (n2 g),fun c=>absurd (c.back n1 n2) hc⟩
theorem bE.ret {α:Type} {r r':Rd} (a:α) (h:SR l l' N A r r'):bE l l' N A r (some (a,r)) (some (a,r')):=by
 intro p hp
 cases hp
 exact⟨zaj _,id,fun c=>⟨r',rfl,h c⟩⟩
theorem bE.lu {α:Type} {r:Rd} {o':Option (α×Rd)} : bE l l' N A r none o':=fun p hp=>by cases hp
theorem bE.ask {α β:Type} {r:Rd} {o o':Option α} {f f':α→Option (β×Rd)} (h : ∀ a,o=some a→na N A r→o'=some a) (k : ∀ a,o=some a→bE l l' N A r (f a) (f' a)):bE l l' N A r (o.bind f) (o'.bind f'):=by
 intro p hp
 rw[zab]at hp
 obtain⟨a,h1,h2⟩:=hp
 obtain⟨n1,n2,n3⟩:=k a h1 _ h2
 refine⟨n1,n2,fun c=>?_⟩
 rw[h a h1 (c.back n1 n2)]
 exact n3 c
theorem bE.same {α β:Type} {r:Rd} {o:Option α} {f f':α→Option (β×Rd)} (k : ∀ a,o=some a→bE l l' N A r (f a) (f' a)):bE l l' N A r (o.bind f) (o.bind f'):=bE.ask (fun a h _=>h) k
theorem bE.ite {α:Type} {r:Rd} {c:Prop} [Decidable c] {a b a' b':Option (α×Rd)} (h1:c→bE l l' N A r a a') (h2 : ¬ c→bE l l' N A r b b'):bE l l' N A r (if c then a else b) (if c then a' else b'):=by
 by_cases h:c
 ·rw[if_pos h,if_pos h];exact h1 h
 ·rw[if_neg h,if_neg h];exact h2 h
theorem rk.ret {r r':Rd} (h:SR l l' N A r r'):rk l l' N A r (some r) (some r'):=by
 intro p hp
 cases hp
 exact⟨zaj _,id,fun c=>⟨r',rfl,h c⟩⟩
theorem rk.aim {r:Rd} {c:Prop} [Decidable c] {a b a' b':Option Rd} (h1:c→rk l l' N A r a a') (h2 : ¬ c→rk l l' N A r b b'):rk l l' N A r (if c then a else b) (if c then a' else b'):=by
 by_cases h:c
 ·rw[if_pos h,if_pos h];exact h1 h
 ·rw[if_neg h,if_neg h];exact h2 h
theorem bE.Ka {α:Type} {r r':Rd} (hr:SR l l' N A r r') {a b a' b':Option (α×Rd)} (h1:r.good=true→bE l l' N A r a a') (h2:r.good=false→bE l l' N A r b b') :
 bE l l' N A r (if r.good=true then a else b) (if r'.good=true then a' else b'):=by
 by_cases hc:na N A r
 ·have e:r'.good=r.good:=by simp only [Rd.good,(hr hc).ec]
  rw[e]
  cases h:r.good
  ·exact h2 h
  ·exact h1 h
 ·intro p hp
  have key:r.i≤p.2.i∧(p.2.good=true→r.good=true):=by
   cases h:r.good
   ·rw[h]at hp;have:=h2 h p hp;exact⟨this.1,fun g=>by rw[← h];exact this.2.1 g⟩
   ·rw[h]at hp;exact⟨(h1 h p hp).1,fun _=>rfl⟩
  exact⟨key.1,key.2,fun c=>absurd (c.back key.1 key.2) hc⟩
theorem SR.yP {r r':Rd} (h:SR l l' N A r r') (hc:na N A r):r'.good=r.good:=by simp only[Rd.good,(h hc).ec]
theorem SR.set {r r':Rd} (h:SR l l' N A r r') (j:Nat) (hj:r.i≤j):SR l l' N A {r with i:=j} {r' with i:=j}:=by
 intro hc
 have:=h (hc.back (r:=r) hj id)
 exact⟨this.el,this.Eh,rfl,this.en,this.ec,this.ef⟩
theorem bE.on {α:Type} {r r':Rd} (a:α) (h:SR l l' N A r r') (j j':Nat) (hj:r.i≤j) (e:na N A r→j'=j):bE l l' N A r (some (a,{r with i:=j})) (some (a,{r' with i:=j'})):=by
 intro p hp
 cases hp
 refine⟨hj,id,fun c=>?_⟩
 have hc:na N A r:=c.back hj id
 rw[e hc]
 exact⟨_,rfl,h.set j hj c⟩
theorem x3 {l:List bN} {i:Nat} {t:bN} (h:i<4611686018427387904) (e:l[i]? = some t):wx l i=some t:=by simp[wx,h,e]
theorem uW (E:Env l l' N A) {r r':Rd} (h:SR l l' N A r r') (hc:na N A r) (hi:A∨r.i<N) {t:bN} (ht:r.fA=some t) : ∃ t',r'.fA=some t'∧BW t t':=by
 obtain⟨h1,h2,h3,h4⟩:=fh ht
 have R:=h hc
 rw[R.el]at h2
 obtain⟨t',e,te⟩:=E.low _ _ h2 hi
 refine⟨t', ?_,te⟩
 simp only[Rd.fA,R.ei,R.Eh,x3 h1 e,zam,te.k,h3,h4,decide_true,zbJ,↓reduceIte]
theorem Ft (E:Env l l' N A) {r r':Rd} (h:SR l l' N A r r') (hc:na N A r) (hA : ¬ A) (hi:r.i=N) {t:bN} (ht:r.fA=some t):Quiet t∧∃ t',r'.fA=some t'∧pS t':=by
 obtain⟨h1,h2,h3,h4⟩:=fh ht
 have R:=h hc
 obtain⟨u,u',e1,e2,q1,q2⟩:=E.at' hA
 rw[R.el,hi,e1]at h2
 cases h2
 refine⟨q1,u', ?_,q2⟩
 have hk:0≤u'.kind∧u'.kind≤4:=by rcases q2 with q|q<;>omega
 rw[hi]at h1
 simp only[Rd.fA,R.ei,R.Eh,hi,x3 h1 e2,zam,hk.1,hk.2,decide_true,zbJ,↓reduceIte]
theorem na.cases {r:Rd} (hc:na N A r):(A∨r.i<N)∨(¬ A∧r.i=N):=by
 by_cases hA:A
 ·exact .inl (.inl hA)
 ·rcases hc with h | h
  ·exact absurd h hA
  ·rcases Nat.lt_or_eq_of_le h.2 with h | h
   ·exact .inl (.inr h)
   ·exact .inr ⟨hA,h⟩
theorem Ei (E:Env l l' N A) {r r':Rd} (h:SR l l' N A r r') {s:aB} (h1:s≠ [125]) (h2:s≠ [112,114,111,99]) {b:Bool} (hb:r.is s=some b) (hc:na N A r):r'.is s=some b:=by
 unfold Rd.is at hb ⊢
 rw[zab]at hb
 obtain⟨t,ht,hb⟩:=hb
 cases hb
 rcases hc.cases with hi|⟨hA,hi⟩
 ·obtain⟨t',e,te⟩:=uW E h hc hi ht
  rw[e,zam,te.k,te.x]
 ·obtain⟨q,t',e,q'⟩:=Ft E h hc hA hi ht
  rw[e,zam]
  have a1:((t.kind==3 ||t.kind==4) && t.text==s)=false:=by
   rcases q with q|⟨_,q⟩
   ·simp[q]
   ·have:(t.text==s)=false:=by rw [q];simpa using fun e=>h1 e.symm
    simp[this]
  have a2:((t'.kind==3 ||t'.kind==4) && t'.text==s)=false:=by
   rcases q' with q|⟨_,q⟩
   ·simp[q]
   ·have:(t'.text==s)=false:=by rw [q];simpa using fun e=>h2 e.symm
    simp[this]
  rw[a1,a2]
theorem jO (E:Env l l' N A) {r r':Rd} (h:SR l l' N A r r') {s:aB} (h1:s≠ [125]) (h2:s≠ [112,114,111,99]):bE l l' N A r (r.take s) (r'.take s):=by
 unfold Rd.take
 by_cases hc:na N A r
 ·rw [h.yP hc]
  refine bE.ite (fun _=>bE.ret _ h) (fun _=>?_)
  refine bE.ask (fun b hb hc=>Ei E h h1 h2 hb hc) fun b _=>bE.ite (fun _=>bE.ret _ h) fun _=>bE.on _ h _ _ (zbo _) fun hc=>by rw[(h hc).ei]
 ·intro p hp
  have key:r.i≤p.2.i∧(p.2.good=true→r.good=true):=by
   split at hp
   ·cases hp;exact⟨zaj _,id⟩
   ·rw [zab]at hp
    obtain⟨b,_,hp⟩:=hp
    split at hp
    ·cases hp;exact⟨zaj _,id⟩
    ·cases hp;exact⟨zbo _,id⟩
  exact⟨key.1,key.2,fun c=>absurd (c.back key.1 key.2) hc⟩
theorem Mt (E:Env l l' N A) {r r':Rd} (h:SR l l' N A r r') {c:Int} (hc0:c=3∨c=4):rk l l' N A r (r.bad c) (r'.bad c):=by
 intro p hp
 unfold Rd.bad at hp
 cases hg:r.good
 ·simp only [hg,zaa, ↓reduceIte]at hp
  cases hp
  refine⟨zaj _,fun g=>(by rw[hg]at g;cases g),fun hc=>?_⟩
  refine⟨r', ?_,h hc⟩
  simp only[Rd.bad,h.yP hc,hg,zaa,↓reduceIte]
 ·simp only [hg, ↓reduceIte]at hp
  rw[zab]at hp
  obtain⟨t,ht,hp⟩:=hp
  cases hp
  have hf:({r with code:=c,gE:=t.pos} : Rd).good=false:=by rcases hc0 with rfl|rfl<;>rfl
  refine⟨zaj _,fun g=>rfl,fun hc=>?_⟩
  rcases hc with hA|⟨g,_⟩
  ·have hcr:na N A r:= .inl hA
   obtain⟨t',e,te⟩:=uW E h hcr (.inl hA) ht
   have R:=h hcr
   refine⟨{r' with code:=c,gE:=t'.pos}, ?_,⟨R.el,R.Eh,R.ei,R.en,rfl, .inr ⟨hc0,r.i,t,t', ?_, ?_,rfl,rfl⟩⟩⟩
   ·simp only[Rd.bad,h.yP hcr,hg,↓reduceIte,e,zam]
   ·have:=(fh ht).2.1;rw[R.el]at this;exact this
   ·have:=(fh e).2.1;rw[R.Eh,R.ei]at this;exact this
  ·rw[hf]at g;cases g
theorem gj (E:Env l l' N A) {r r':Rd} (h:SR l l' N A r r') {s:aB} (h1:s≠ [125]) (h2:s≠ [112,114,111,99]):rk l l' N A r (r.want s) (r'.want s):=by
 unfold Rd.want
 exact(jO E h h1 h2).afJ fun a q q' hq=>rk.aim (fun _=>Mt E hq (by decide)) fun _=>rk.ret hq
end
end Go.Abs
namespace Go.Abs
section
variable {l l':List bN} {N:Nat} {A:Prop}
def Next (N:Nat) (A:Prop) (r:Rd) (t t':bN):Prop:=BW t t'∨(¬ A∧r.i=N∧Quiet t∧pS t')
structure yQ (N:Nat) (A:Prop) (r r':Rd):Prop where
 g:r'.good=r.good
 i:r'.i=r.i
 n:r'.n=r.n
 pk : ∀ t,r.fA=some t→∃ t',r'.fA=some t'∧Next N A r t t'
 pk2 : ∀ t,r.fA=some t→t.kind=1→∀ u,wx r.l (r.i+1)=some u→∃ u',wx r'.l (r'.i+1)=some u'∧(BW u u'∨Quiet u∧pS u')
theorem BW.refl (t:bN):BW t t:=⟨rfl,rfl,rfl⟩
theorem yQ.refl (r:Rd):yQ N A r r:=⟨rfl,rfl,rfl,fun t h=>⟨t,h, .inl (BW.refl t)⟩,fun t _ _ u h=>⟨u,h, .inl (BW.refl u)⟩⟩
theorem Mu (E:Env l l' N A) {r r':Rd} (h:SR l l' N A r r') (hc:na N A r):yQ N A r r':=by
 refine⟨h.yP hc,(h hc).ei,(h hc).en,fun t ht=>?_,fun t ht hk u hu=>?_⟩
 ·rcases hc.cases with hi | ⟨hA,hi⟩
  ·obtain⟨t',e,te⟩:=uW E h hc hi ht
   exact⟨t',e, .inl te⟩
  ·obtain⟨q,t',e,q'⟩:=Ft E h hc hA hi ht
   exact⟨t',e, .inr ⟨hA,hi,q,q'⟩⟩
 ·have R:=h hc
  have ain:A∨r.i<N:=by
   rcases hc.cases with hi|⟨hA,hi⟩
   ·exact hi
   ·obtain⟨q,_⟩:=Ft E h hc hA hi ht
    rcases q with q|q
    ·omega
    ·omega
  obtain⟨h1,h2⟩:=oI hu
  rw[R.el]at h2
  rw[R.Eh,R.ei]
  by_cases hA:A
  ·obtain⟨u',e,te⟩:=E.low _ _ h2 (.inl hA)
   exact⟨u',x3 h1 e, .inl te⟩
  ·rcases zaF (r.i+1) N with hj | hj
   ·obtain⟨u',e,te⟩:=E.low _ _ h2 (.inr hj)
    exact⟨u',x3 h1 e, .inl te⟩
   ·have e1:r.i+1=N:=by rcases ain with f | f;exact absurd f hA;omega
    obtain⟨v,v',f1,f2,q1,q2⟩:=E.at' hA
    rw[e1]at h2 h1
    rw[f1]at h2
    cases h2
    rw[e1]
    exact⟨v',x3 h1 f2, .inr ⟨q1,q2⟩⟩
theorem bE.wl {α:Type} (E:Env l l' N A) {r r':Rd} (h:SR l l' N A r r') {F G:Rd→Option (α×Rd)} (k : ∀ r'',SR l l' N A r r''→yQ N A r r''→bE l l' N A r (F r) (G r'')):bE l l' N A r (F r) (G r'):=by
 by_cases hc:na N A r
 ·exact k r' h (Mu E h hc)
 ·intro p hp
  obtain⟨a,b,_⟩:=k r (fun c=>absurd c hc) (yQ.refl r) p hp
  exact⟨a,b,fun c=>absurd (c.back a b) hc⟩
theorem bE.void {α:Type} {r:Rd} {o o' o'':Option (α×Rd)} (h:bE l l' N A r o o'') (k : ∀ p,o=some p→¬ na N A p.2):bE l l' N A r o o':=by
 intro p hp
 obtain⟨a,b,_⟩:=h p hp
 exact⟨a,b,fun c=>absurd c (k p hp)⟩
theorem bE.CH {α:Type} {r r':Rd} (nr:yQ N A r r') {f f':bN→Option (α×Rd)} (k : ∀ t t',r.fA=some t→r'.fA=some t'→Next N A r t t'→bE l l' N A r (f t) (f' t')) :
 bE l l' N A r (r.fA.bind f) (r'.fA.bind f'):=by
 intro p hp
 rw[zab]at hp
 obtain⟨t,ht,hp⟩:=hp
 obtain⟨t',mB,q⟩:=nr.pk t ht
 have:=k t t' ht mB q p hp
 rw[mB,zam]
 exact this
theorem Quiet.k1 {t:bN} (h:Quiet t):(t.kind==1)=false:=by rcases h with h|⟨h,_⟩<;>simp[h]
theorem Quiet.k2 {t:bN} (h:Quiet t):(t.kind==2)=false:=by rcases h with h|⟨h,_⟩<;>simp[h]
theorem pS.k1 {t:bN} (h:pS t):(t.kind==1)=false:=by rcases h with h|⟨h,_⟩<;>simp[h]
theorem pS.k2 {t:bN} (h:pS t):(t.kind==2)=false:=by rcases h with h|⟨h,_⟩<;>simp[h]
theorem Quiet.op {t:bN} (h:Quiet t):fz t=(0,0):=by
 rcases h with h|⟨h,e⟩
 ·simp[fz,h]
 ·simp only[fz,h,e];decide
theorem pS.op {t:bN} (h:pS t):fz t=(0,0):=by rcases h with h|⟨h,_⟩<;>simp[fz,h]
theorem BW.op {t t':bN} (h:BW t t'):fz t'=fz t:=by simp only[fz,h.k,h.x]
theorem qw {α:Type} (E:Env l l' N A) {r r':Rd} (h:SR l l' N A r r') {c:Int} (hc:c=3∨c=4) (a:α):bE l l' N A r ((r.bad c).bind fun r=>some (a,r)) ((r'.bad c).bind fun r=>some (a,r)):=
 (Mt E h hc).bind fun q q' hq=>bE.ret _ hq
theorem oY (E:Env l l' N A) {r r':Rd} (h:SR l l' N A r r') (room:Bool):bE l l' N A r (r.name room) (r'.name room):=by
 refine bE.wl E h (F:=fun r=>r.name room) (G:=fun r=>r.name room) fun r' h nr=>?_
 unfold Rd.name
 refine bE.CH nr fun t t' ht mB q=>?_
 rw[nr.g]
 rcases q with te|⟨_,_,q,q'⟩
 ·rw [te.k,te.x,nr.i]
  exact bE.ite (fun _=>qw E h (by decide) _) fun _=>bE.ite (fun _=>qw E h (by decide) _) fun _=>bE.on _ h _ _ (zbo _) fun _=>rfl
 ·have e1:(t.kind != 1)=true:=by have:=q.k1;simpa using this
  have e2:(t'.kind != 1)=true:=by have:=q'.k1;simpa using this
  rw[e1,e2,zbt,if_pos rfl,if_pos rfl]
  exact qw E h (by decide) _
theorem Xn (E:Env l l' N A) : ∀ n:Nat,(∀ r r':Rd,SR l l' N A r r'→bE l l' N A r (Rd.one n r) (Rd.one n r'))∧(∀ (r r':Rd) (k:Int),SR l l' N A r r'→bE l l' N A r (Rd.two n k r) (Rd.two n k r'))∧
 (∀ (r r':Rd) (k:Int) (x:Ex),SR l l' N A r r'→bE l l' N A r (Rd.jf n k x r) (Rd.jf n k x r')):=by
 intro n
 induction n with
 |zero=>exact⟨fun r r' _=>by simp only[Rd.one];exact bE.lu,fun r r' k _=>by simp only[Rd.two];exact bE.lu,fun r r' k x _=>by simp only[Rd.jf];exact bE.lu⟩
 | succ n ih=>
  obtain⟨qH,tq,xU⟩:=ih
  refine⟨fun r r' h=>?_,fun r r' k h=>?_,fun r r' k x h=>?_⟩
  ·refine bE.wl E h (F:=Rd.one (n+1)) (G:=Rd.one (n+1)) fun r' h nr=> ?_
   simp only[Rd.one]
   refine bE.CH nr fun t t' ht mB q=>?_
   rw[nr.g,nr.i]
   refine bE.ite (fun _=>bE.ret _ h) fun _=>?_
   have tail:bE l l' N A r ((r.take [40]).bind fun p=>
    if p.1 then(Rd.two n 1 p.2).bind fun x=>(x.2.want [41]).bind fun r=>some (x.1,r)
    else(p.2.take [45]).bind fun p=>
     if p.1 then(Rd.one n p.2).bind fun x=>some ((⟨3,0,[],[x.1]⟩:Ex),x.2)
     else(p.2.take [33]).bind fun p=>
      if p.1 then(Rd.one n p.2).bind fun x=>some (⟨4,0,[],[x.1]⟩,x.2)
      else(p.2.bad 3).bind fun r=>some (iG,r)) ((r'.take [40]).bind fun p=>
    if p.1 then(Rd.two n 1 p.2).bind fun x=>(x.2.want [41]).bind fun r=>some (x.1,r)
    else(p.2.take [45]).bind fun p=>
     if p.1 then(Rd.one n p.2).bind fun x=>some ((⟨3,0,[],[x.1]⟩:Ex),x.2)
     else(p.2.take [33]).bind fun p=>
      if p.1 then(Rd.one n p.2).bind fun x=>some (⟨4,0,[],[x.1]⟩,x.2)
      else(p.2.bad 3).bind fun r=>some (iG,r)):=by
    refine(jO E h (by decide) (by decide)).bind fun a q q' hq=>bE.ite (fun _=>?_) fun _=>?_
    ·refine(tq _ _ _ hq).bind fun x s s' hs=> ?_
     exact(gj E hs (by decide) (by decide)).bind fun u u' hu=>bE.ret _ hu
    refine(jO E hq (by decide) (by decide)).bind fun a q q' hq=>bE.ite (fun _=>?_) fun _=>?_
    ·exact(qH _ _ hq).bind fun x s s' hs=>bE.ret _ hs
    refine(jO E hq (by decide) (by decide)).bind fun a q q' hq=>bE.ite (fun _=>?_) fun _=>?_
    ·exact(qH _ _ hq).bind fun x s s' hs=>bE.ret _ hs
    ·exact qw E hq (by decide) _
   rcases q with te|⟨_,_,q,q'⟩
   ·rw [te.k,te.x,te.n]
    exact bE.ite (fun _=>bE.on _ h _ _ (zbo _) fun _=>rfl) fun _=>bE.ite (fun _=>bE.on _ h _ _ (zbo _) fun _=>rfl) fun _=>tail
   ·simp only [q.k1,q.k2,q'.k1,q'.k2,zaa, ↓reduceIte]
    exact tail
  ·simp only [Rd.two]
   exact(qH _ _ h).bind fun x s s' hs=>xU _ _ _ _ hs
  ·refine bE.wl E h (F:=Rd.jf (n+1) k x) (G:=Rd.jf (n+1) k x) fun r' h nr=> ?_
   simp only[Rd.jf]
   rw[nr.g,nr.i]
   refine bE.ite (fun _=>?_) fun _=>bE.ret _ h
   refine bE.CH nr fun t t' ht mB q=>?_
   rcases q with te|⟨_,_,q,q'⟩
   ·rw [te.op]
    refine bE.ite (fun _=>bE.ret _ h) fun _=>?_
    intro p hp
    have hs:SR l l' N A {r with i:=r.i+1} {r' with i:=r.i+1}:=h.set _ (zbo _)
    obtain⟨a,b,c⟩:=(bE.bind (f:=fun y=>Rd.jf n k ⟨(fz t).1,0,[],[x,y.1]⟩ y.2) (f':=fun y=>Rd.jf n k ⟨(fz t).1,0,[],[x,y.1]⟩ y.2) (tq _ _ ((fz t).2+1) hs) fun y q q' hq=>xU _ _ k _ hq) p hp
    exact⟨zaN (zbo _) a,b,c⟩
   ·rw [q.op,q'.op]
    have e:(decide ((0:Int)<k) ||(0:Int)==0)=true:=by simp
    simp only[e,↓reduceIte]
    exact bE.ret _ h
theorem sR (E:Env l l' N A) {n:Nat} {r r':Rd} (h:SR l l' N A r r'):bE l l' N A r (Rd.whole n r) (Rd.whole n r'):=by
 refine bE.wl E h (F:=Rd.whole n) (G:=Rd.whole n) fun r' h nr=>?_
 unfold Rd.whole
 refine bE.CH nr fun t t' ht mB q=>?_
 refine((Xn E n).2.1 _ _ _ h).bind fun x s s' hs=>?_
 refine bE.Ka hs (fun hg=>bE.same fun d _=>bE.ite (fun _=>?_) fun _=>bE.ret _ hs) fun _=>bE.ret _ hs
 intro p hp
 cases hp
 have hf:({s with code:=4,gE:=t.pos} : Rd).good=false:=rfl
 refine⟨zaj _,fun _=>hg,fun hc=>?_⟩
 rcases hc with hA|⟨g,_⟩
 ·have R:=hs (.inl hA)
  have R0:=h (.inl hA)
  refine⟨_,rfl,R.el,R.Eh,R.ei,R.en,rfl, .inr ⟨.inr rfl,r.i,t,t', ?_, ?_,rfl,rfl⟩⟩
  ·have:=(fh ht).2.1;rw[R0.el]at this;exact this
  ·have:=(fh mB).2.1;rw[R0.Eh,R0.ei]at this;exact this
 ·rw[hf]at g;cases g
theorem GM (E:Env l l' N A) {dk:Int} : ∀ (n:Nat) (L:List aB) (r r':Rd),SR l l' N A r r'→bE l l' N A r (Rd.names n L dk r) (Rd.names n L dk r'):=by
 intro n
 induction n with
 |zero=>intro L r r' _;simp only[Rd.names];exact bE.lu
 | succ n ih=>
  intro L r r' h
  simp only[Rd.names]
  refine bE.Ka h (fun _=>?_) fun _=>bE.ret _ h
  exact(oY E h _).bind fun a q q' hq=>bE.same fun L' _=>(jO E hq (by decide) (by decide)).bind fun b s s' hs=>
   bE.ite (fun _=>(gj E hs (by decide) (by decide)).bind fun u u' hu=>bE.ret _ hu) fun _=>ih _ _ _ hs
theorem GN (E:Env l l' N A) {r r':Rd} {s:aB} (nr:yQ N A r r') (h1:s≠ [125]) {b:Bool} (hb:r.ahead s=some b):r'.ahead s=some b:=by
 unfold Rd.ahead at hb ⊢
 rw[nr.g]
 cases hg:r.good
 ·simp only[hg,zaa,↓reduceIte]at hb ⊢;exact hb
 ·simp only [hg, ↓reduceIte]at hb ⊢
  rw[zab]at hb
  obtain⟨t,ht,hb⟩:=hb
  obtain⟨t',mB,q⟩:=nr.pk t ht
  rw[mB,zam]
  rcases q with te|⟨_,_,q,q'⟩
  ·rw [te.k]
   cases hk:t.kind==1
   ·simp only[hk,zaa,↓reduceIte]at hb ⊢;exact hb
   ·simp only [hk, ↓reduceIte]at hb ⊢
    rw[zab]at hb
    obtain⟨u,hu,hb⟩:=hb
    obtain⟨u',hu',qu⟩:=nr.pk2 t ht (by simpa using hk) u hu
    rw[hu',zam]
    rcases qu with te|⟨q,q'⟩
    ·rw[te.k,te.x];exact hb
    ·cases hb
     have a1:(u.kind==4 && u.text==s)=false:=by
      rcases q with q|⟨_,q⟩
      ·simp[q]
      ·have:(u.text==s)=false:=by rw [q];simpa using fun e=>h1 e.symm
       simp[this]
     have a2:(u'.kind==4 && u'.text==s)=false:=by rcases q' with q|⟨q,_⟩<;>simp[q]
     rw[a1,a2]
  ·rw [q.k1]at hb
   rw[q'.k1]
   simpa using hb
theorem P2 (E:Env l l' N A) : ∀ (n:Nat) (L:List aB) (r r':Rd),SR l l' N A r r'→bE l l' N A r (Rd.labels n L r) (Rd.labels n L r'):=by
 intro n
 induction n with
 |zero=>intro L r r' _;simp only[Rd.labels];exact bE.lu
 | succ n ih=>
  intro L r r' h
  refine bE.wl E h (F:=Rd.labels (n+1) L) (G:=Rd.labels (n+1) L) fun r' h nr=>?_
  simp only[Rd.labels]
  refine bE.ask (fun b hb _=>GN E nr (by decide) hb) fun b hb=>bE.ite (fun zc=>?_) fun _=>bE.ret _ h
  refine bE.CH nr fun t t' ht mB q=>?_
  have hx:t'.text=t.text:=by
   rcases q with te|⟨_,_,q,_⟩
   ·exact te.x
   ·exfalso
    subst zc
    unfold Rd.ahead at hb
    split at hb
    ·rw [ht,zam,q.k1]at hb
     simp at hb
    ·cases hb
  rw[hx,nr.i]
  refine bE.same fun L' _=>?_
  intro p hp
  obtain⟨a,b,c⟩:=ih L' _ _ (h.set (r.i+2) (by omega)) p hp
  exact⟨zaN (by dsimp only;omega) a,b,c⟩
end
end Go.Abs
namespace Go.Abs
section
variable {l l':List bN} {N:Nat} {A:Prop}
theorem TG (E:Env l l' N A) {m:Nat} : ∀ (n:Nat) (L:List Ar) (r r':Rd),SR l l' N A r r'→bE l l' N A r (Rd.jk m n L r) (Rd.jk m n L r'):=by
 intro n
 induction n with
 |zero=>intro L r r' _;simp only[Rd.jk];exact bE.lu
 | succ n ih=>
  intro L r r' h
  simp only[Rd.jk]
  refine bE.Ka h (fun _=>?_) fun _=>bE.ret _ h
  refine(jO E h (by decide) (by decide)).bind fun a q q' hq=>bE.ite (fun _=>?_) fun _=>?_
  ·refine(oY E hq _).bind fun b s s' hs=>bE.same fun L' _=> ?_
   exact(jO E hs (by decide) (by decide)).bind fun c u u' hu=>bE.ite (fun _=>bE.ret _ hu) fun _=>ih _ _ _ hu
  ·refine(sR E hq).bind fun b s s' hs=>bE.same fun L' _=> ?_
   exact(jO E hs (by decide) (by decide)).bind fun c u u' hu=>bE.ite (fun _=>bE.ret _ hu) fun _=>ih _ _ _ hu
theorem GO (E:Env l l' N A) {r r':Rd} (h:SR l l' N A r r') {s:aB} (h1:s≠ [125]) (h2:s≠ [112,114,111,99]) {b:Bool} (hb:r.other s=some b) (hc:na N A r):r'.other s=some b:=by
 unfold Rd.other at hb ⊢
 rw[h.yP hc]
 cases hg:r.good
 ·simp only[hg,zaa,↓reduceIte]at hb ⊢;exact hb
 ·simp only [hg, ↓reduceIte]at hb ⊢
  rw[zab]at hb
  obtain⟨c,h3,hb⟩:=hb
  rw[Ei E h h1 h2 h3 hc]
  exact hb
theorem Kb (E:Env l l' N A) {m:Nat} {name proc:aB} {r r':Rd} (h:SR l l' N A r r'):bE l l' N A r (Rd.call m name proc r) (Rd.call m name proc r'):=by
 unfold Rd.call
 refine(gj E h (by decide) (by decide)).bind fun q q' hq=>?_
 refine bE.ask (fun b hb hc=>GO E hq (by decide) (by decide) hb hc) fun b _=>bE.ite (fun _=>?_) fun _=>?_
 ·refine(TG E _ _ _ _ hq).bind fun a s s' hs=> ?_
  exact(gj E hs (by decide) (by decide)).bind fun u u' hu=>(gj E hu (by decide) (by decide)).bind fun v v' hv=>bE.ret _ hv
 ·exact(gj E hq (by decide) (by decide)).bind fun u u' hu=>(gj E hu (by decide) (by decide)).bind fun v v' hv=>bE.ret _ hv
theorem bE.adY {α:Type} (E:Env l l' N A) {r r':Rd} (h:SR l l' N A r r') {s:aB} (h1:s≠ [125]) {f f':Bool→Option (α×Rd)} (k : ∀ b,bE l l' N A r (f b) (f' b)):bE l l' N A r ((r.ahead s).bind f) ((r'.ahead s).bind f'):=
 bE.ask (fun b hb hc=>GN E (Mu E h hc) h1 hb) fun b _=>k b
theorem TH (E:Env l l' N A) {m:Nat} {r r':Rd} (h:SR l l' N A r r'):bE l l' N A r (Rd.named m r) (Rd.named m r'):=by
 unfold Rd.named
 refine(oY E h _).bind fun a q q' hq=>?_
 refine bE.ask (fun b hb hc=>Ei E hq (by decide) (by decide) hb hc) fun b _=>bE.ite (fun _=>Kb E hq) fun _=>?_
 refine(gj E hq (by decide) (by decide)).bind fun u u' hu=>?_
 refine bE.adY E hu (by decide) fun b=>bE.ite (fun _=>?_) fun _=>?_
 ·exact(oY E hu _).bind fun c s s' hs=>Kb E hs
 ·exact(sR E hu).bind fun c s s' hs=>(gj E hs (by decide) (by decide)).bind fun v v' hv=>bE.ret _ hv
theorem TI (E:Env l l' N A) {m:Nat} {word:aB} {r r':Rd} (h:SR l l' N A r r'):bE l l' N A r (Rd.plain m word r) (Rd.plain m word r'):=by
 unfold Rd.plain
 refine bE.ite (fun _=>bE.ret _ h) fun _=>bE.ite (fun _=>bE.ret _ h) fun _=>bE.ite (fun _=>?_) fun _=>?_
 ·refine bE.ask (fun b hb hc=>Ei E h (by decide) (by decide) hb hc) fun b _=>bE.ite (fun _=> ?_) fun _=>bE.ret _ h
  exact(sR E h).bind fun a s s' hs=>bE.ret _ hs
 refine bE.ite (fun _=>(oY E h _).bind fun a s s' hs=>bE.ret _ hs) fun _=>bE.ite (fun _=>(oY E h _).bind fun a s s' hs=>bE.ret _ hs) fun _=>bE.ite (fun _=>?_) fun _=>bE.ret _ h
 exact(sR E h).bind fun a s s' hs=>bE.ret _ hs
theorem Kc (E:Env l l' N A) {m:Nat} {r r':Rd} (h:SR l l' N A r r'):bE l l' N A r (Rd.head m r) (Rd.head m r'):=by
 unfold Rd.head
 refine(gj E h (by decide) (by decide)).bind fun q q' hq=>?_
 exact(sR E hq).bind fun a s s' hs=>(gj E hs (by decide) (by decide)).bind fun v v' hv=>bE.ret _ hv
theorem P3 {r r':Rd} (nr:yQ N A r r') {b:Bool} (hb:r.lU=some b):r'.lU=some b:=by
 unfold Rd.lU at hb ⊢
 rw[zab]at hb
 obtain⟨t,ht,hb⟩:=hb
 obtain⟨t',mB,q⟩:=nr.pk t ht
 rw[mB,zam]
 rcases q with te|⟨_,_,q,q'⟩
 ·rw[te.k,te.x];exact hb
 ·cases hb
  have e1:(t.kind != 3)=true:=by rcases q with q|⟨q,_⟩<;>simp[q]
  simp only[q.k1,q'.k1,e1,zaa,↓reduceIte]
  rcases q' with q|⟨q,e⟩
  ·simp[q]
  ·rw[q,e];rfl
theorem SR.aip {r r':Rd} (h:SR l l' N A r r') (k:Nat):SR l l' N A {r with n:=k} {r' with n:=k}:=by
 intro hc
 have:=h (hc.back (r:=r) (zaj _) id)
 exact⟨this.el,this.Eh,this.ei,rfl,this.ec,this.ef⟩
theorem bE.from {α:Type} {r s:Rd} {o o':Option (α×Rd)} (h:bE l l' N A s o o') (hi:r.i≤s.i) (hg:s.good=true→r.good=true):bE l l' N A r o o':=by
 intro p hp
 obtain⟨a,b,c⟩:=h p hp
 exact⟨zaN hi a,fun g=>hg (b g),c⟩
theorem P4 {m n:Nat} {nest:Int} {r:Rd} {t:bN} (ht:r.fA=some t) (q:Quiet t) {p:Sm×Rd} (hp:Rd.stmt m n nest r=some p):p.2.good=false:=by
 cases n with
 |zero=>simp only[Rd.stmt]at hp;cases hp
 | succ n=>
  have e1:(t.kind != 3)=true:=by rcases q with q|⟨q,_⟩<;>simp[q]
  simp only[Rd.stmt,Rd.lU,ht,zam,q.k1,e1,zaa,↓reduceIte,zao]at hp
  rw[zab]at hp
  obtain⟨r1,h1,hp⟩:=hp
  cases hp
  unfold Rd.bad at h1
  split at h1
  ·rw [ht,zam]at h1
   cases h1;rfl
  ·rename_i hg
   cases h1
   simpa using hg
theorem TJ {m n:Nat} {nest:Int} {body:Bool} {out:List Sm} {r:Rd} (hg:r.good=false) {p:(List Sm×List aB)×Rd} (hp:Rd.dI m n nest body out r=some p):p.2.good=false:=by
 cases n with
 |zero=>simp only[Rd.dI]at hp;cases hp
 |succ n=>
  simp only[Rd.dI,hg,zaa,↓reduceIte]at hp
  cases hp
  exact hg
theorem TK (E:Env l l' N A) {m:Nat} : ∀ n:Nat,
 (∀ (nest:Int) (body:Bool) (r r':Rd),SR l l' N A r r'→bE l l' N A r (Rd.rows m n nest body r) (Rd.rows m n nest body r'))∧
 (∀ (nest:Int) (body:Bool) (out:List Sm) (r r':Rd),SR l l' N A r r'→bE l l' N A r (Rd.dI m n nest body out r) (Rd.dI m n nest body out r'))∧
 (∀ (nest:Int) (r r':Rd),SR l l' N A r r'→bE l l' N A r (Rd.stmt m n nest r) (Rd.stmt m n nest r'))∧
 (∀ (nest:Int) (r r':Rd),SR l l' N A r r'→bE l l' N A r (Rd.block m n nest r) (Rd.block m n nest r'))∧
 (∀ (nest:Int) (r r':Rd),SR l l' N A r r'→bE l l' N A r (Rd.choice m n nest r) (Rd.choice m n nest r')):=by
 intro n
 induction n with
 |zero=>
  refine⟨fun _ _ r r' _=>?_,fun _ _ _ r r' _=>?_,fun _ r r' _=>?_,fun _ r r' _=>?_,fun _ r r' _=>?_⟩
  ·simp only[Rd.rows];exact bE.lu
  ·simp only[Rd.dI];exact bE.lu
  ·simp only[Rd.stmt];exact bE.lu
  ·simp only[Rd.block];exact bE.lu
  ·simp only[Rd.choice];exact bE.lu
 | succ n ih=>
  obtain⟨i1,i2,i3,i4,i5⟩:=ih
  refine⟨fun nest body r r' h=>?_,fun nest body out r r' h=>?_,fun nest r r' h=>?_,fun nest r r' h=>?_,fun nest r r' h=>?_⟩
  ·simp only [Rd.rows]
   exact i2 _ _ _ _ _ h
  ·simp only [Rd.dI]
   refine bE.Ka h (fun hg=>?_) fun _=>bE.ret _ h
   refine(P2 E m [] _ _ h).bind fun ls q q' hq=>?_
   have go : ∀ (q':Rd) (b:Bool),SR l l' N A q q'→q'.i=q.i→bE l l' N A q (if b && (body ||(ls.length:Int)==0)then some ((out,ls),{q with i:=q.i+1})else(Rd.stmt m n nest q).bind fun s=>(push 209 out {s.1 with labels:=ls}).bind fun out=>Rd.dI m n nest body out s.2)
    (if b && (body ||(ls.length:Int)==0)then some ((out,ls),{q' with i:=q'.i+1})else(Rd.stmt m n nest q').bind fun s=>(push 209 out {s.1 with labels:=ls}).bind fun out=>Rd.dI m n nest body out s.2):=by
    intro q' b hq hi
    refine bE.ite (fun _=>bE.on _ hq _ _ (zbo _) fun _=>by rw[hi]) fun _=>?_
    exact(i3 _ _ _ hq).bind fun s u u' hu=>bE.same fun bK _=>i2 _ _ _ _ _ hu
   have:=bE.wl E hq (F:=fun q=>(q.is [125]).bind fun b=>if b && (body ||(ls.length:Int)==0)then some ((out,ls),{q with i:=q.i+1})else(Rd.stmt m n nest q).bind fun s=>(push 209 out {s.1 with labels:=ls}).bind fun out=>Rd.dI m n nest body out s.2)
    (G:=fun q=>(q.is [125]).bind fun b=>if b && (body || (ls.length:Int)==0)then some ((out,ls),{q with i:=q.i+1})else(Rd.stmt m n nest q).bind fun s=>(push 209 out {s.1 with labels:=ls}).bind fun out=>Rd.dI m n nest body out s.2) fun q' hq nr=>by
     unfold Rd.is
     rw[zaY,zaY]
     refine bE.CH nr fun t t' ht mB x=>?_
     rw[zam,zam]
     rcases x with te|⟨hA,hN,x,x'⟩
     ·rw [te.k,te.x]
      exact go q' _ hq nr.i
     ·refine bE.void (go q' _ hq nr.i) fun p hp hc=> ?_
      rcases hc with hc|⟨ji,lR⟩
      ·exact hA hc
      ·split at hp
       ·cases hp
        dsimp only at lR
        omega
       ·rw [zab]at hp
        obtain⟨s,h1,hp⟩:=hp
        rw[zab]at hp
        obtain⟨bK,_,hp⟩:=hp
        have:=TJ (P4 ht x h1) hp
        rw[this]at ji;cases ji
   exact this
  ·refine bE.wl E h (F:=Rd.stmt m (n+1) nest) (G:=Rd.stmt m (n+1) nest) fun r' h nr=> ?_
   simp only[Rd.stmt]
   refine bE.ask (fun b hb _=>P3 nr hb) fun b hb=>bE.ite (fun _=>qw E h (by decide) _) fun hnb=>?_
   rw[nr.n]
   refine bE.same fun k _=>?_
   have hk:=h.aip k
   refine bE.ite (fun _=>(qw E hk (by decide) _).from (zaj _) id) fun _=>?_
   have nk:yQ N A {r with n:=k} {r' with n:=k}:=⟨nr.g,nr.i,rfl,nr.pk,nr.pk2⟩
   have LS:SR l l' N A {r with n:=k,i:=r.i+1} {r' with n:=k,i:=r'.i+1}:=by
    have:=hk.set (r.i+1) (zbo _)
    dsimp only at this
    rw[nr.i]
    exact this
   refine bE.from (s:= {r with n:=k}) ?_ (zaj _) id
   refine bE.CH nk fun t t' ht mB q=>?_
   have part : ∀ t:bN,bE l l' N A {r with n:=k} (if t.kind==1 then Rd.named m {r with n:=k}
    else if t.text == [105,102]then Rd.choice m n nest {r with n:=k,i:=r.i+1}
    else if t.text == [119,104,105,108,101]then(Rd.head m {r with n:=k,i:=r.i+1}).bind fun x=>(Rd.block m n nest x.2).bind fun b=>some (⟨0,6,[],[],[],x.1,false,[],b.1,[]⟩,b.2)
    else(Rd.plain m t.text {r with n:=k,i:=r.i+1}).bind fun s=>(s.2.want [59]).bind fun r=>some (s.1,r))
    (if t.kind==1 then Rd.named m {r' with n:=k}
    else if t.text == [105,102]then Rd.choice m n nest {r' with n:=k,i:=r'.i+1}
    else if t.text == [119,104,105,108,101]then(Rd.head m {r' with n:=k,i:=r'.i+1}).bind fun x=>(Rd.block m n nest x.2).bind fun b=>some (⟨0,6,[],[],[],x.1,false,[],b.1,[]⟩,b.2)
    else(Rd.plain m t.text {r' with n:=k,i:=r'.i+1}).bind fun s=>(s.2.want [59]).bind fun r=>some (s.1,r)):=by
    intro t
    refine bE.ite (fun _=>TH E hk) fun _=>bE.from (s:= {r with n:=k,i:=r.i+1}) ?_ (zbo _) id
    refine bE.ite (fun _=>i5 _ _ _ LS) fun _=>bE.ite (fun _=>?_) fun _=>?_
    ·exact(Kc E LS).bind fun a s s' hs=>(i4 _ _ _ hs).bind fun b u u' hu=>bE.ret _ hu
    ·exact(TI E LS).bind fun a s s' hs=>(gj E hs (by decide) (by decide)).bind fun u u' hu=>bE.ret _ hu
   rcases q with te|⟨hA,hN,q,q'⟩
   ·rw [te.k,te.x]
    exact part t
   ·exfalso
    have ht:r.fA=some t:=ht
    have e1:(t.kind != 3)=true:=by rcases q with q|⟨q,_⟩<;>simp[q]
    simp only[Rd.lU,ht,zam,q.k1,e1,zaa,↓reduceIte]at hb
    cases hb
    simp at hnb
  ·simp only [Rd.block]
   refine(gj E h (by decide) (by decide)).bind fun q q' hq=>bE.same fun k _=>?_
   exact(i1 _ _ _ _ hq).bind fun a s s' hs=>bE.ret _ hs
  ·simp only [Rd.choice]
   refine(Kc E h).bind fun a q q' hq=>(i4 _ _ _ hq).bind fun b s s' hs=>?_
   refine(jO E hs (by decide) (by decide)).bind fun c u u' hu=>bE.ite (fun _=>?_) fun _=>bE.ret _ hu
   exact(i4 _ _ _ hu).bind fun d v v' hv=>bE.ret _ hv
end
end Go.Abs
namespace Go.Abs
section
variable {l l':List bN} {N:Nat} {A:Prop}
theorem P5 (E:Env l l' N A) : ∀ (n:Nat) (L:List Pm) (r r':Rd),SR l l' N A r r'→bE l l' N A r (Rd.params n L r) (Rd.params n L r'):=by
 intro n
 induction n with
 |zero=>intro L r r' _;simp only[Rd.params];exact bE.lu
 |succ n ih=>
  intro L r r' h
  simp only[Rd.params]
  refine bE.Ka h (fun _=>?_) fun _=>bE.ret _ h
  refine(jO E h (by decide) (by decide)).bind fun a q q' hq=>(oY E hq _).bind fun b s s' hs=>bE.same fun L' _=>?_
  exact(jO E hs (by decide) (by decide)).bind fun c u u' hu=>bE.ite (fun _=>bE.ret _ hu) fun _=>ih _ _ _ hu
theorem Xo (E:Env l l' N A) {m:Nat} : ∀ (n:Nat) (L:List aB) (r r':Rd),SR l l' N A r r'→bE l l' N A r (Rd.vars m n L r) (Rd.vars m n L r'):=by
 intro n
 induction n with
 |zero=>intro L r r' _;simp only[Rd.vars];exact bE.lu
 |succ n ih=>
  intro L r r' h
  simp only[Rd.vars]
  refine(jO E h (by decide) (by decide)).bind fun a q q' hq=>bE.ite (fun _=>?_) fun _=>bE.ret _ hq
  exact(GM E _ _ _ _ hq).bind fun b s s' hs=>ih _ _ _ hs
theorem Lk (E:Env l l' N A) {m:Nat} : ∀ (n:Nat) (L:List aB) (r r':Rd),SR l l' N A r r'→bE l l' N A r (Rd.globals m n L r) (Rd.globals m n L r'):=by
 intro n
 induction n with
 |zero=>intro L r r' _;simp only[Rd.globals];exact bE.lu
 |succ n ih=>
  intro L r r' h
  simp only[Rd.globals]
  refine(jO E h (by decide) (by decide)).bind fun a q q' hq=>bE.ite (fun _=>?_) fun _=>bE.ret _ hq
  exact(GM E _ _ _ _ hq).bind fun b s s' hs=>ih _ _ _ hs
theorem GQ (E:Env l l' N A) {m:Nat} {name:aB} {ps:List Pm} {r r':Rd} (h:SR l l' N A r r'):bE l l' N A r (Rd.jB m name ps r) (Rd.jB m name ps r'):=by
 unfold Rd.jB
 exact(Xo E _ _ _ _ h).bind fun a q q' hq=>((TK E _).1 _ _ _ _ hq).bind fun b s s' hs=>bE.ret _ hs
theorem Xp (E:Env l l' N A) {m:Nat} {r r':Rd} (h:SR l l' N A r r'):bE l l' N A r (Rd.proc m r) (Rd.proc m r'):=by
 unfold Rd.proc
 refine(oY E h _).bind fun a q q' hq=>(gj E hq (by decide) (by decide)).bind fun u u' hu=>?_
 refine bE.ask (fun b hb hc=>GO E hu (by decide) (by decide) hb hc) fun b _=>bE.ite (fun _=>?_) fun _=>?_
 ·refine(P5 E _ _ _ _ hu).bind fun c s s' hs=>(gj E hs (by decide) (by decide)).bind fun v v' hv=> ?_
  exact(gj E hv (by decide) (by decide)).bind fun w w' hw=>GQ E hw
 ·exact(gj E hu (by decide) (by decide)).bind fun v v' hv=>(gj E hv (by decide) (by decide)).bind fun w w' hw=>GQ E hw
theorem P6 (E:Env l l' N True) {r r':Rd} (h:SR l l' N True r r') {b:Bool} (hb:r.oJ=some b):r'.oJ=some b:=by
 have hc:na N True r:= .inl trivial
 unfold Rd.oJ Rd.is at hb ⊢
 rw[h.yP hc]
 cases hg:r.good
 ·simp only[hg,zaa,↓reduceIte]at hb ⊢;exact hb
 ·simp only [hg, ↓reduceIte]at hb ⊢
  rw[zab]at hb
  obtain⟨t,ht,hb⟩:=hb
  obtain⟨t',e,te⟩:=uW E h hc (.inl trivial) ht
  rw[e,zam,te.k,te.x]
  exact hb
theorem P7 (E:Env l l' N True) {r r':Rd} (h:SR l l' N True r r') {b:Bool} (hb:r.mP=some b):r'.mP=some b:=by
 have hc:na N True r:= .inl trivial
 unfold Rd.mP at hb ⊢
 rw[h.yP hc]
 cases hg:r.good
 ·simp only[hg,zaa,↓reduceIte]at hb ⊢;exact hb
 ·simp only [hg, ↓reduceIte]at hb ⊢
  rw[zab]at hb
  obtain⟨t,ht,hb⟩:=hb
  obtain⟨t',e,te⟩:=uW E h hc (.inl trivial) ht
  rw[e,zam,te.k]
  exact hb
theorem Xq (E:Env l l' N True) {m:Nat} : ∀ (n:Nat) (L:List Pc) (r r':Rd),SR l l' N True r r'→bE l l' N True r (Rd.procs m n L r) (Rd.procs m n L r'):=by
 intro n
 induction n with
 |zero=>intro L r r' _;simp only[Rd.procs];exact bE.lu
 | succ n ih=>
  intro L r r' h
  simp only[Rd.procs]
  refine bE.ask (fun b hb _=>P6 E h hb) fun b _=>bE.ite (fun _=>bE.ite (fun _=>qw E h (by decide) _) fun _=>?_) fun _=>?_
  ·have R:=h (.inl trivial)
   rw[R.ei]
   refine bE.from (s:= {r with i:=r.i+1}) ?_ (zbo _) id
   exact(Xp E (h.set _ (zbo _))).bind fun a q q' hq=>bE.same fun L' _=>ih _ _ _ hq
  ·exact bE.ask (fun b hb _=>P7 E h hb) fun b _=>bE.ite (fun _=>qw E h (by decide) _) fun _=>bE.ret _ h
theorem Ll (E:Env l l' N True) {m:Nat} {r r':Rd} (h:SR l l' N True r r'):bE l l' N True r (Rd.program m r) (Rd.program m r'):=by
 unfold Rd.program
 exact(Lk E _ _ _ _ h).bind fun a q q' hq=>(Xq E _ _ _ _ hq).bind fun b s s' hs=>bE.ret _ hs
end
end Go.Abs
namespace Go.Abs
theorem Ej : ∀ s:aB,qR (s.take (fu s))=true
 | []=>rfl
 | c::r=>by
  simp only[fu]
  split
  ·rename_i h
   rw[zbp]
   have:(!(lG c) && !(iH c))=false:=by
    cases h1:lG c<;>cases h2:iH c<;>simp[h1,h2]at h ⊢
   simp only[qR,this,zaa,↓reduceIte]
   exact Ej r
  ·rfl
theorem Ke : ∀ (s:aB) (a n:Int),oc a s=some n→0≤a→(∀ c∈s,iH c=true)→0≤n
 | [],a,n,h,ha,_=>by simp only[oc]at h;cases h;exact ha
 | c::r,a,n,h,ha,hd=>by
  simp only[oc]at h
  split at h
  ·cases h
  ·have hcd:=hd c (zaE ..)
   simp only[iH,zaq,decide_eq_true_eq]at hcd
   exact Ke r _ n h (by omega) fun x hx=>hd x (zaA _ hx)
theorem GR : ∀ s:aB,∀ c∈s.take (iY s),iH c=true
 | [],c,h=>by simp at h
 | d::s,c,h=>by
  simp only[iY]at h
  split at h
  ·rename_i hd
   rw[zbp]at h
   rcases zaw.1 h with rfl|h
   ·exact hd
   ·exact GR s c h
  ·simp at h
theorem aay {pos:Nat} {s:aB} {t:bN} (h:fV pos s = .inl t):(t.kind=1→isName t.text=true)∧(t.kind=2→0≤t.n)∧1≤t.kind:=by
 cases s with
 |nil=>simp only[fV]at h;cases h
 | cons c r=>
  simp only[fV]at h
  cases hL:lG c
  ·simp only [hL,zaa, ↓reduceIte]at h
   cases hD:iH c
   ·simp only [hD,zaa, ↓reduceIte]at h
    split at h
    ·cases h
    ·cases h;simp
   ·simp only [hD, ↓reduceIte]at h
    split at h
    ·cases h
    ·split at h
     ·rename_i n hw
      cases h
      exact⟨by simp,fun _=>Ke _ _ _ hw (by omega) (GR _),by simp⟩
     ·cases h
  ·simp only [hL, ↓reduceIte]at h
   split at h
   ·cases h
   ·rename_i h8
    cases h
    refine⟨fun hk=>?_,fun hk=>?_, ?_⟩
    ·dsimp only at hk ⊢
     have hw:isWord ((c::r).take (fu (c::r)))=false:=by
      cases hx:isWord ((c::r).take (fu (c::r)))
      ·rfl
      ·rw[hx]at hk;simp at hk
     have e:fu (c::r)=fu r+1:=by simp[fu,hL]
     rw[e,zbp]at hw h8 ⊢
     have hn:=Ej r
     have e8:decide (((List.take (fu r) r).length+1:Nat) > (8:Int))=false:=by
      simp only[zal]at h8
      simp only[decide_eq_false_iff_not];omega
     simp only[isName,e8,hL,hn,hw,zan,zbz,zaa,↓reduceIte,zao]
    ·dsimp only at hk;split at hk<;>omega
    ·dsimp only;split<;>omega
theorem Lx.tk {pos:Nat} {s:aB} {l:List bN} (h:Lx pos s l) : ∀ t∈l,(t.kind=1→isName t.text=true)∧(t.kind=2→0≤t.n)∧1≤t.kind:=by
 induction h with
 |nil=>simp
 |blank pos c r l h k ih=>exact ih
 |rem pos c r l h h2 k ih=>exact ih
 |tok pos c r t l h h2 ht k ih=>
  intro u hu
  rcases zaw.1 hu with rfl|hu
  ·exact aay ht
  ·exact ih u hu
theorem Lx.tks {s:aB} {l:List bN} {n:Nat} (h:Lx 0 s l):mZ (l++ [J7 n]):=by
 intro t ht
 rcases zaB.1 ht with h1|h1
 ·exact⟨(h.tk t h1).1,(h.tk t h1).2.1⟩
 ·simp at h1;subst h1;simp[J7]
def FOk (L:List bN) (c gE:Int):Prop:=c=0∧gE=0∨(c=3∨c=4)∧∃ t∈L,t.pos=gE
theorem TL (l:List bN):Env l l 0 True:=⟨fun i t ht _=>⟨t,ht,rfl,rfl,rfl⟩,fun f=>absurd trivial f⟩
theorem Xr (l:List bN):SR l l 0 True (q8 l) (q8 l):=fun _=>⟨rfl,rfl,rfl,rfl,rfl, .inl rfl⟩
theorem Lm {m:Nat} {text:aB} {p:Pg} {c gE:Int} (h:l9 m text=some (p,c,gE)) (h0:(eX text).2.1=0):FOk (eX text).1 c gE∧(c=0→p.may=true):=by
 obtain⟨l,hl,hlen,ew,e⟩:=TF h0
 unfold l9 at h
 rw[e]at h ⊢
 have yS:((0:Int) != 0)=false:=rfl
 simp only[yS,zaa,↓reduceIte]at h
 rw[zab]at h
 obtain⟨P,hP,h⟩:=h
 obtain⟨_,_,m3⟩:=Ll (TL _) (Xr _) P hP
 obtain⟨q',_,R⟩:=m3 (.inl trivial)
 split at h
 ·rename_i hc
  cases h
  simp only[bne_iff_ne,ne_eq]at hc
  refine⟨.inr ?_,fun h=>absurd h hc⟩
  rcases R.ef with f|⟨C6,j,t,t',g1,g2,g3,g4⟩
  ·exact absurd f hc
  ·exact⟨C6,t,zae g1,g3.symm⟩
 ·rename_i hc
  rw[zab]at h
  obtain⟨q,h3,h⟩:=h
  unfold Pg.qk at h3
  split at h3
  ·cases h3
   cases h
   exact⟨.inl ⟨rfl,rfl⟩,fun _=>(Li hl.tks hP (by simpa[Rd.good]using hc)).1⟩
  ·cases h3
set_option maxRecDepth 8000
open Go.Proofs
mutual
def Ex.nodes:Ex→Nat
 |⟨_,_,_,kids⟩=>1+Ex.TN kids
def Ex.TN:List Ex→Nat
 | []=>0
 |x::l=>x.nodes+Ex.TN l
end
mutual
def P8:Ex→Int→Int
 |⟨_,_,_,kids⟩,dk=>Yw kids dk 1
def Yw:List Ex→Int→Int→Int
 | [],_,n=>n
 |x::l,dk,n=>if n≤dk then Yw l dk (n+P8 x (dk - n))else n
end
def Ek (n:Int):List D:= [.int .i64 n]
theorem afK (n:Int):D.bP 0 0 (Ek n)=true:=rfl
theorem adZ (n m:Nat) (l:List Int):D.ko n m (l.map Ek)=l.map Ek:=mN afK n m l
attribute [go_sem] Ek adZ
def tV (op:Int):aB:=
 if op=5 then [42]else if op=6 then [47]else if op=7 then [37]else if op=8 then [43]else if op=9 then [45]else if op=10 then [60]else if op=11 then [60,61]
 else if op=12 then [62]else if op=13 then [62,61]else if op=14 then [61,61]else if op=15 then [33,61]else if op=16 then [38,38]else [124,124]
def gP (op:Int):Int:=(lX (tV op)).1
theorem ak5 {op:Int} (h:(decide (5≤op) && decide (op≤17))=true):op=5∨op=6∨op=7∨op=8∨op=9∨op=10∨op=11∨op=12∨op=13∨op=14∨op=15∨op=16∨op=17:=by
 simp only[zaq,decide_eq_true_eq]at h;omega
def TO:Nat→List aB
 | 0=> []
 |n+1=>TO n++ [[UInt8.ofNat (97+n)]]
end Go.Abs
namespace Go.Abs
set_option maxRecDepth 8000
open Go.Proofs
def Xs:Nat→Nat→aB
 | 0,_=> []
 |f+1,n=>if n<10 then [UInt8.ofNat (48+n)]else Xs f (n / 10)++ [UInt8.ofNat (48+n % 10)]
inductive rl:Ex→Prop
 |num (n:Int) (h0:0≤n) (h1:n≤9223372036854775807):rl ⟨1,n,[],[]⟩
 |name (t:aB) (h:isName t=true):rl ⟨2,0,t,[]⟩
 |neg (y:Ex) (h:rl y):rl ⟨3,0,[],[y]⟩
 |no (y:Ex) (h:rl y):rl ⟨4,0,[],[y]⟩
 |two (op:Int) (a b:Ex) (ho:(decide (5≤op) && decide (op≤17))=true) (ha:rl a) (hb:rl b):rl ⟨op,0,[],[a,b]⟩
mutual
def HG:Ex→aB
 |⟨op,n,name,kids⟩=>afL op n name kids
def afL (op n:Int) (name:aB):List Ex→aB
 | []=>if op=2 then name else Xs 20 n.toNat
 | [a]=>if op=3 then [40,45]++HG a++ [41]else [40,33]++HG a++ [41]
 |a::b::_=> [40]++HG a++tV op++HG b++ [41]
end
open Go.Proofs Go.RowKit
def HH (l:aB):List (List D):=l.map fun c=> [.int .u8 c.toNat]
end Go.Abs
namespace Go.Abs
open Go.Proofs
mutual
def sS (least:Int):Ex→aB
 |⟨op,n,name,kids⟩=>prK least op n name kids
def prK (least op n:Int) (name:aB):List Ex→aB
 | []=>if op=2 then name else Xs 20 n.toNat
 | [a]=>if op=3 then [45]++sS 7 a else [33]++sS 7 a
 |a::b::_=>if gP op<least then [40]++(sS (gP op) a++ [32]++tV op++ [32]++sS (gP op+1) b)++ [41]else sS (gP op) a++ [32]++tV op++ [32]++sS (gP op+1) b
end
def prT (op:Int) (a b:Ex):aB:=sS (gP op) a++ [32]++tV op++ [32]++sS (gP op+1) b
def akG (x:Ex):aB:=if x.may then sS 0 x else []
def aiq (names:List aB) (ops:List Int):Nat→aB
 | 0=> []
 |i+1=>aiq names ops i++(if i=0 then []else tV (ops.getD (i - 1) 0))++names.getD i []
structure ak6 (names:List aB) (ops:List Int):Prop where
 len:names.length=ops.length+1
 dk:ops.length≤20
 short : ∀ x∈names,x.length≤1
 op : ∀ o∈ops,(decide (5≤o) && decide (o≤17))=true
def afM (i:Nat) (op:Int) (al:Nat×Int):Nat×Int:=if gP op≤al.2 then(i,gP op)else al
def Mv:List Int→Nat→Nat×Int→Nat×Int
 | [],_,al=>al
 |op::r,i,al=>Mv r (i+1) (afM i op al)
def TP:Nat→List aB→List Int→Ex
 | 0,_,_=>iG
 |n+1,names,ops=>if ops.length=0 then kj (names.getD 0 [])else
  se (ops.getD (Mv ops 0 (0,9)).1 0) (TP n (names.take ((Mv ops 0 (0,9)).1+1)) (ops.take (Mv ops 0 (0,9)).1)) (TP n (names.drop ((Mv ops 0 (0,9)).1+1)) (ops.drop ((Mv ops 0 (0,9)).1+1)))
inductive uX:Ex→List (Int×aB)→Ex→Prop
 |nil (x:Ex):uX x [] x
 |cut (x:Ex) (p1:List (Int×aB)) (op:Int) (y:aB) (p2:List (Int×aB)) (t1 t2:Ex) (h1:uX x p1 t1) (h2:uX (kj y) p2 t2) (l1 : ∀ q∈p1,gP op≤gP q.1) (l2 : ∀ q∈p2,gP op<gP q.1) :
  uX x (p1++(op,y)::p2) (se op t1 t2)
def El:List (Int×aB)→List bN→Prop
 | [],l=>∃ t r,l=t::r∧t.kind=0
 |(op,y)::p,l=>∃ s u r,l=s::u::r∧s.kind=4∧s.text=tV op∧(decide (5≤op) && decide (op≤17))=true∧u.kind=1∧u.text=y∧El p r
def akH (n:Nat):Prop:=∀ (least:Int) (r:Rd) (t0:bN) (p:List (Int×aB)) (l:List bN) (x:Ex×Rd),r.l.drop r.i=t0::l→t0.kind=1→El p l→r.code=0→1≤least→Rd.two n least r=some x→
 ∃ p1 p2,p=p1++p2∧uX (kj t0.text) p1 x.1∧(∀ q∈p1,least≤gP q.1)∧(∀ q p',p2=q::p'→gP q.1<least)∧x.2 = {r with i:=r.i+1+2*p1.length}∧El p2 (l.drop (2*p1.length))
def aiw (n:Nat):Prop:=∀ (least:Int) (x0:Ex) (A:List (Int×aB)) (x:Ex) (r:Rd) (p:List (Int×aB)) (l:List bN) (z:Ex×Rd),r.l.drop r.i=l→El p l→r.code=0→1≤least→uX x0 A x→
 (∀ q p',p=q::p'→∀ a∈A,gP q.1≤gP a.1)→Rd.jf n least x r=some z→
 ∃ p1 p2,p=p1++p2∧uX x0 (A++p1) z.1∧(∀ q∈p1,least≤gP q.1)∧(∀ q p',p2=q::p'→gP q.1<least)∧z.2 = {r with i:=r.i+2*p1.length}∧El p2 (l.drop (2*p1.length))
def AtB (d:List Int) (al:Nat×Int):Prop:=(d = []∧al.2=9)∨∃ o1 op o2,d=o1++op::o2∧o1.length=al.1∧gP op=al.2∧(∀ o∈o1,gP op≤gP o)∧∀ o∈o2,gP op<gP o
def afN:List aB→List Int→aB
 |x::xs,op::ops=>tV op++(x++afN xs ops)
 |_,_=> []
def air:aB→Prop
 | []=>True
 |c::_=>lG c=false∧iH c=false
def tW (t:bN) (k:Int) (s:aB) (n:Int):Prop:=t.kind=k∧t.text=s∧t.n=n
inductive tX:Ex→List bN→List bN→Prop
 |num (n:Int) (t:bN) (l:List bN) (h:t.kind=2) (h2:t.n=n):tX ⟨1,n,[],[]⟩ (t::l) l
 |name (s:aB) (t:bN) (l:List bN) (h:t.kind=1) (h2:t.text=s):tX ⟨2,0,s,[]⟩ (t::l) l
 |neg (y:Ex) (p m q:bN) (l r:List bN) (hp:tW p 4 [40] 0) (hm:tW m 4 [45] 0) (hy:tX y l (q::r)) (hq:tW q 4 [41] 0):tX ⟨3,0,[],[y]⟩ (p::m::l) r
 |no (y:Ex) (p m q:bN) (l r:List bN) (hp:tW p 4 [40] 0) (hm:tW m 4 [33] 0) (hy:tX y l (q::r)) (hq:tW q 4 [41] 0):tX ⟨4,0,[],[y]⟩ (p::m::l) r
 |two (op:Int) (a b:Ex) (p o q:bN) (l m r:List bN) (ho:(decide (5≤op) && decide (op≤17))=true) (hp:tW p 4 [40] 0) (ha:tX a l (o::m)) (hs:tW o 4 (tV op) 0) (hb:tX b m (q::r)) (hq:tW q 4 [41] 0) :
  tX ⟨op,0,[],[a,b]⟩ (p::l) r
def Okd:aB→Prop
 | []=>False
 |d::_=>d≠61∧d≠38∧d≠124
def Rd.mv (r:Rd) (k:Nat):Rd:= {r with i:=r.i+k}
structure At (r:Rd) (l:List bN):Prop where
 d:r.l.drop r.i=l
 c:r.code=0
 s:r.l.length<1000000000
def Kd (t:bN):Prop:=0≤t.kind∧t.kind≤4
def Halt (c:Int) (m:List bN):Prop:=∃ t m',m=t::m'∧Kd t∧((fz t).1=0∨(fz t).2≤c)
def ak7 (x:Ex) (l:List bN):Prop:=∀ (r:Rd) (lr:List bN) (n:Nat),At r (l++lr)→3*l.length≤n+1→Rd.one n r=some (x,r.mv l.length)
def ak8 (c:Int) (x:Ex) (l:List bN):Prop:=∀ (r:Rd) (lr:List bN) (n:Nat) (k:Int),At r (l++lr)→Halt c lr→k≤c→3*l.length≤n→∃ n',n≤n'+3*l.length∧Rd.two n k r=Rd.jf n' k x (r.mv l.length)
def BX (least:Int):Ex→Nat
 |⟨op,_,_,kids⟩=>match kids with
  | []=>1
  | [a]=>1+BX 7 a
  |a::b::_=>BX (gP op) a+1+BX (gP op+1) b+(if gP op<least then 2 else 0)
def LxS (s:aB) (pos:Nat) (l:List bN):Prop:=∀ r lr,air r→Lx (pos+s.length) r lr→Lx pos (s++r) (l++lr)
def ad0 (l:List bN):Prop:=(∃ t l',l=t::l'∧(t.kind=2∨(t.kind=4∧(t.text = [40]∨t.text = [45]∨t.text = [33]))))∨(∃ t,l = [t]∧t.kind=1)∨∃ t u l',l=t::u::l'∧t.kind=1∧(decide (5≤(fz u).1) && decide ((fz u).1≤17))=true
def Ends (m:List bN):Prop:=∃ t m',m=t::m'∧Kd t∧(fz t).1=0
def aaz (x:Ex) (l:List bN):Prop:=∀ (r:Rd) (lr:List bN) (n:Nat),At r (l++lr)→Ends lr→3*l.length<n→Rd.whole n r=some (x,r.mv l.length)
theorem afP (n m:Nat) (l:aB):D.jw n m (HH l)=true:=by
 simp[HH,C9,zS,D.ok]
theorem afQ (n m:Nat) (l:aB):D.ko n m (HH l)=HH l:=De n m _ (afP 0 0 l)
attribute [go_sem] afQ
def sf (n:Nat) (m:aB):aB:=List.replicate n 32++m++ [10]
end Go.Abs
namespace Go.Abs
open Go.Proofs
def AU:List aB→aB
 | []=> []
 |s::l=>s++ [58,32]++AU l
def ais (a:Ar):aB:=if a.ref then [114,101,102,32]++a.name else sS 0 a.x
def afR (name proc:aB) (args:List Ar):aB:=(if name = []then []else name++ [32,61,32])++(proc++ [40]++Lib.join (args.map ais) [44,32]++ [41])
def TQ (kind:Int) (name proc:aB) (x:Ex) (has:Bool) (args:List Ar):aB:=
 if kind=1 then name++ [32,61,32]++sS 0 x else if kind=2 then [114,101,97,100,32]++name else if kind=3 then [112,114,105,110,116,32]++sS 0 x else if kind=7 then [98,114,101,97,107]else if kind=8 then [99,111,110,116,105,110,117,101]
 else if kind=10 then [103,111,116,111,32]++name else if kind=9 then(if has then [114,101,116,117,114,110,32]++sS 0 x else [114,101,116,117,114,110])else afR name proc args
structure Sm.PrO (s:Sm):Prop where
 x:s.mg=true→rl s.x
 LH : ∀ t∈s.labels,t.length≤8
 name:s.name.length≤8
 proc:s.proc.length≤8
 args : ∀ a∈s.args,a.name.length≤8∧(a.ref=false→rl a.x)
 kind:1≤s.kind∧s.kind≤10
 aR:s.kind=6→s.aR = []
mutual
def ait (bF:Nat):Sm→aB
 |⟨id,kind,labels,name,proc,x,has,args,bb,aR⟩=>
  if kind=6 then sf bF (AU labels++ [119,104,105,108,101,32,40]++sS 0 x++ [41,32,123])++yR (bF+1) bb++sf bF [125]
  else if kind=5 then sf bF (AU labels++ [105,102,32,40]++sS 0 x++ [41,32,123])++yR (bF+1) bb++(if aR.length=0 then []else sf bF [125,32,101,108,115,101,32,123]++yR (bF+1) aR)++sf bF [125]
  else sf bF (AU labels++TQ kind name proc x has args++ [59])
def yR (bF:Nat):List Sm→aB
 | []=> []
 |s::l=>ait bF s++yR bF l
end
mutual
def Sm.PrR (bF:Nat):Sm→Prop
 |⟨id,kind,labels,name,proc,x,has,args,bb,aR⟩=>Sm.PrO ⟨id,kind,labels,name,proc,x,has,args,bb,aR⟩∧bF≤12∧Sm.Qa (bF+1) bb∧Sm.Qa (bF+1) aR
def Sm.Qa (bF:Nat):List Sm→Prop
 | []=>True
 |s::l=>s.PrR bF∧Sm.Qa bF l
end
def Ep (l:aB):Nat:=l.length
def ad1 (a:Pm):aB:=(if a.ref then [114,101,102,32]else [])++a.name
def afS (f:Pc):aB:=
 sf 0 ([112,114,111,99,32]++f.name++ [40]++Lib.join (f.params.map ad1) [44,32]++ [41,32,123])++(if f.vars.length=0 then []else sf 1 ([118,97,114,32]++Lib.join f.vars [44,32]++ [59]))++yR 1 f.body++sf 0 (AU f.fin++ [125])
def TR:List Pc→aB
 | []=> []
 |f::l=>afS f++TR l
def ad2 (l:List aB):aB:=if l.length=0 then []else sf 0 ([103,108,111,98,97,108,32]++Lib.join l [44,32]++ [59])
def ak9 (p:Pg):aB:=ad2 p.globals++TR p.procs
structure Pc.PrP (f:Pc):Prop where
 name:f.name.length≤8
 params : ∀ a∈f.params,a.name.length≤8
 vars : ∀ t∈f.vars,t.length≤8
 fin : ∀ t∈f.fin,t.length≤8
 body:Sm.Qa 1 f.body
structure Pg.PrG (p:Pg):Prop where
 globals : ∀ t∈p.globals,t.length≤8
 procs : ∀ f∈p.procs,f.PrP
def LxF (s:aB) (pos:Nat) (l:List bN):Prop:=∀ r lr,Lx (pos+s.length) r lr→Lx pos (s++r) (l++lr)
def tSg (c:UInt8) (pos:Nat):bN:=⟨4,[c],0,(pos:Nat)⟩
def tNm (t:aB) (pos:Nat):bN:=⟨1,t,0,(pos:Nat)⟩
def tWd (t:aB) (pos:Nat):bN:=⟨3,t,0,(pos:Nat)⟩
inductive Qb {α:Type} (G:α→List bN→Prop):List α→List bN→Prop
 |one (x:α) (l:List bN) (h:G x l):Qb G [x] l
 |cons (x:α) (l:List bN) (c:bN) (hc:c.kind=4∧c.text = [44]) (xs:List α) (m:List bN) (h:G x l) (k:Qb G xs m):Qb G (x::xs) (l++c::m)
def Yx (t:aB) (l:List bN):Prop:=∃ k:bN,l = [k]∧k.kind=1∧k.text=t
def akL (a:Pm) (l:List bN):Prop:=if a.ref then ∃ w k:bN,l = [w,k]∧w.kind=3∧w.text = [114,101,102]∧k.kind=1∧k.text=a.name else Yx a.name l
def alM (a:Ar) (l:List bN):Prop:=if a.ref then ∃ w k:bN,l = [w,k]∧w.kind=3∧w.text = [114,101,102]∧k.kind=1∧k.text=a.name else aaz a.x l∧ad0 l∧l.length=BX 0 a.x
def arZ (a:Ar):Ar:=if a.ref then⟨true,a.name,iG⟩else⟨false,[],a.x⟩
inductive Qc:List aB→List bN→Prop
 |nil:Qc [] []
 |cons (t c:bN) (ls:List aB) (m:List bN) (ht:t.kind=1) (hc:c.kind=4) (uk:c.text = [58]) (h:Qc ls m):Qc (t.text::ls) (t::c::m)
def ala (l:List bN):Prop:=∃ t l',l=t::l'∧Kd t∧(t.kind≠1∨∃ u m,l'=u::m∧(u.kind≠4∨u.text≠ [58]))
set_option maxRecDepth 8000
open Go.Proofs
def alb (x:Ex):Int:=if jH x.op<2 then 7 else gP x.op
def afT (sep:aB):Nat→List aB→aB
 |_,[]=> []
 |k,a::l=>(if k=0 then []else sep)++(a++afT sep (k+1) l)
def afU (s:Sm):aB:=if s.kind=6 then [119,104,105,108,101,32,40]++sS 0 s.x++ [41,32,123]else if s.kind=5 then [105,102,32,40]++sS 0 s.x++ [41,32,123]else TQ s.kind s.name s.proc s.x s.has s.args++ [59]
mutual
def Sm.z:Sm→Sm
 |⟨_,kind,labels,name,proc,x,has,args,bb,aR⟩=>⟨0,kind,labels,name,proc,x,has,args,Sm.zs bb,Sm.zs aR⟩
def Sm.zs:List Sm→List Sm
 | []=> []
 |s::l=>s.z::Sm.zs l
end
structure alN (s:Sm):Prop where
 LH:cr s.labels=true
 x:s.mg=true→s.x.may=true
 x0:s.mg=false→s.x=iG
 has:s.has=true→s.kind=9
 nm:s.hasName=true→isName s.name=true
 nm0:s.hasName=false→s.name = []∨(s.iI=true∧isName s.name=true)
 proc:s.iI=true→isName s.proc=true
 call:s.iI=false→s.proc = []∧s.args = []
 args:Ar.cJ s.args=true
 bb:s.bb = []∨s.kind=5∨s.kind=6
 aR:s.aR = []∨s.kind=5
 kind:1≤s.kind∧s.kind≤10
def alc (bF:Nat) (s:Sm):aB:=afU s++([10]++(if s.kind=5∨s.kind=6 then
 yR (bF+1) s.bb++((if s.kind=5∧s.aR.length≠0 then List.replicate bF 32++ [125,32,101,108,115,101,32,123,10]++yR (bF+1) s.aR else [])++(List.replicate bF 32++ [125,10]))else []))
def NoW (w:aB) (l:List bN):Prop:=∃ t l',l=t::l'∧Kd t∧((t.kind≠3∧t.kind≠4)∨t.text≠w)
abbrev ad4 (l:List bN):Prop:=NoW [101,108,115,101] l
def akM (nest:Int) (n0 n1:Nat) (s:Sm) (l:List bN):Prop:=∀ (r:Rd) (lr:List bN) (m n:Nat),At r (l++lr)→ad4 lr→r.n=n0→3*l.length<m→l.length≤n→
 Rd.stmt m n nest r=some ({s.z with labels:= []},{r.mv l.length with n:=n1})
def argN (a:Ar):Nat:=if a.ref then 2 else BX 0 a.x
def Qd {α:Type} (f:α→Nat):List α→Nat
 | []=>0
 | [a]=>f a
 |a::b::l=>f a+1+Qd f (b::l)
def ad5 (kind:Int) (name:aB) (x:Ex) (has:Bool) (args:List Ar):Nat:=
 if kind=1 then BX 0 x+3 else if kind=2 then 3 else if kind=3 then BX 0 x+2 else if kind=7 then 2 else if kind=8 then 2 else if kind=10 then 3
 else if kind=9 then(if has then BX 0 x+2 else 2)else(if name = []then 0 else 2)+Qd argN args+4
def ald (l:List bN):Prop:=(∃ t u l',l=t::u::l'∧t.kind=1∧(u.kind≠4∨u.text≠ [58]))∨(∃ t l',l=t::l'∧t.kind=3∧t.text≠ [125]∧t.text≠ [101,108,115,101]∧t.text≠ [118,97,114])
mutual
def afV:Sm→Nat
 |⟨_,kind,_,name,_,x,has,args,bb,aR⟩=>if kind=6 then BX 0 x+5+Em bb else if kind=5 then BX 0 x+5+Em bb+(if aR.length=0 then 0 else Em aR+3)else ad5 kind name x has args
def Em:List Sm→Nat
 | []=>0
 |s::l=>2*s.labels.length+afV s+Em l
end
def akN (nest:Int) (n0 n1:Nat) (l:List Sm) (L:List bN):Prop:=∀ (fin:List aB) (F:List bN) (q:bN) (body:Bool) (r:Rd) (lr:List bN) (m n:Nat) (out:List Sm),Qc fin F→q.kind=4→q.text = [125]→(body=true∨fin = [])→
 At r (L++(F++q::lr))→r.n=n0→3*(L.length+F.length+1)<m→L.length+F.length+1≤n→out.length+l.length≤1000000→fin.length≤1000000→
 Rd.dI m n nest body out r=some ((out++Sm.zs l,fin),{r.mv (L.length+F.length+1)with n:=n1})
def akO (L:List bN):Prop:=∀ w,(w = [101,108,115,101]∨w = [118,97,114])→∀ lr,NoW w lr→NoW w (L++lr)
def aiu (a:Pm):Nat:=if a.ref then 2 else 1
def akP (w:aB) (l:List aB) (T:List bN):Prop:=(l = []∧T = [])∨∃ (t q:bN) (m:List bN),T=t::(m++ [q])∧t.kind=3∧t.text=w∧Qb Yx l m∧q.kind=4∧q.text = [59]
def TS (l:List aB):Nat:=if l.length=0 then 0 else Qd (fun _=>1) l+2
def akQ (n0 n1:Nat) (f:Pc) (l:List bN):Prop:=∀ (r:Rd) (lr:List bN) (m:Nat),At r (l++lr)→r.n=n0→3*l.length+10<m→Rd.proc m r=some (⟨f.name,f.params,f.vars,Sm.zs f.body,f.fin⟩,{r.mv l.length with n:=n1})
def afW (f:Pc):Nat:=6+Qd aiu f.params+TS f.vars+Em f.body+2*f.fin.length
def Pc.z (f:Pc):Pc:=⟨f.name,f.params,f.vars,Sm.zs f.body,f.fin⟩
def Pg.z (p:Pg):Pg:=⟨p.globals,p.procs.map Pc.z⟩
def aix (n0:Nat) (l:List Pc) (L:List bN):Prop:=∀ (r:Rd) (e:bN) (m n:Nat) (out:List Pc),At r (L++ [e])→e.kind=0→r.n=n0→out.length+l.length≤16→3*L.length+10<m→l.length<n→
 ∃ n1,Rd.procs m n out r=some (out++l.map Pc.z,{r.mv L.length with n:=n1})
def TT:List Pc→Nat
 | []=>0
 |f::l=>afW f+TT l
def Pg.aE (p:Pg):Nat:=TS p.globals+TT p.procs
abbrev akR (a b:aB) (N:Nat):Prop:=∀ l:List Sm,Sm.aQ l<N→∀ s:St,aC Tryz.prog 81 [.slice .shared 13 (l.map bn), .str a, .str b] s (.slice .shared 13 ((Sm.vS a b l).map bn)) s
def prB:Pc:=⟨[112],[⟨[120],false⟩,⟨[121],true⟩],[],[
 ⟨5,1,[],[121],[],se 8 (kj [121]) (kj [120]),false,[],[],[]⟩,
 ⟨6,5,[],[],[],se 12 (kj [121]) (vV 9),false,[],[⟨7,10,[],[101],[],iG,false,[],[],[]⟩],[]⟩,
 ⟨8,9,[],[],[],kj [121],true,[],[],[]⟩],[[101]]⟩
def stB:Sm:=⟨6,5,[],[],[],se 12 (kj [121]) (vV 9),false,[],[⟨7,10,[],[101],[],iG,false,[],[],[]⟩],[]⟩
def Mw:List Ar→Int
 | []=>0
 |a::l=>3+4*P8 a.x 2000+Mw l
def Yy (s:Sm):Int:=8+2*(s.labels.length:Int)+4*P8 s.x 2000+Mw s.args
def Kf:List It→Int
 | []=>0
 |i::l=>Yy i.s+Kf l
def Yz:List Pm→Int
 | []=>0
 |a::l=>(if a.ref then 1 else 0)+Yz l
def afX (f:Pc):Int:=6+2*(f.params.length:Int)+2*(f.fin.length:Int)+Yz f.params - (if f.params.length=0 then 0 else 1)+(if f.vars.length=0 then 0 else 1+2*(f.vars.length:Int))+Kf f.flat
def TU:List Pc→Int
 | []=>0
 |f::l=>afX f+TU l
def alO (p:Pg):Int:=(if p.globals.length=0 then 0 else 1+2*(p.globals.length:Int))+TU p.procs
mutual
def aiv:Sm→Int
 |⟨id,kind,labels,name,proc,x,has,args,bb,aR⟩=>Yy ⟨id,kind,labels,name,proc,x,has,args,bb,aR⟩+Kg bb+Kg aR
def Kg:List Sm→Int
 | []=>0
 |s::l=>aiv s+Kg l
end
theorem TV {T:aB} {p:Pg} {c gE:Int} (hp:p.size<100000):(ri p c gE).1.size<100000:=by
 unfold ri
 split
 ·split
  ·exact hp
  ·show tz.size<100000;decide
 ·show tz.size<100000;decide
theorem GU {T:aB} {p:Pg} {gE:Int} (h:l9 Bm T=some (p,0,gE)):p.may=true∧gE=0:=by
 have h0:(eX T).2.1=0:=by
  by_cases h0:(eX T).2.1=0
  ·exact h0
  ·unfold l9 at h
   rw[if_pos (by simpa using h0)]at h
   simp only[Option.some.injEq,Prod.mk.injEq]at h
   rw[h.2]at h0
   exact absurd rfl h0
 obtain⟨f1,m1⟩:=Lm h h0
 refine⟨m1 rfl, ?_⟩
 rcases f1 with ⟨_,h⟩|⟨h,_⟩
 ·exact h
 ·omega
theorem Ho (text:aB) (s:St):aC Tryz.prog 4 [.str text] s (.bool true) s:=by
 refine aC.pure ?_ rfl rfl s
 obtain⟨⟨p,c,gE⟩,h,dz⟩:=W5 (Fm text)
 have h0:=fun s=>Tq s
 have h1:=fun s=>Mn h (fun e=>by subst e;exact GU h) dz (JT text) s
 have h2:=fun s=>aam h (fun e=>by subst e;exact GU h) dz (JT text) s
 have Ie:=TV (T:=text) (c:=c) (gE:=gE) dz
 generalize ri p c gE=P at *
 have h3:=fun s=>ah9 (a:=P.1) (b:=P.1) (by omega) s
 rw[Pg.beq_refl]at h3
 have e1:(P.2.1==P.2.1)=true:=by simp
 have e2:(P.2.2==P.2.2)=true:=by simp
 clear h
 unfold S0
 refine aC.go zh.h rfl fun B Q hB hQ=>?_
 have⟨hC,hE,hF,hS⟩:=bt
 repeat' (first
 |simp only[go_sem,hC,hE,hF,hS,e1,e2,iJ]
 |(with_reducible refine CU (h0 _) ?_)
 |(with_reducible refine CU (afA _ _) ?_)
 |(with_reducible refine CU (h1 _) ?_)
 |(with_reducible refine CU (h2 _) ?_)
 |(with_reducible refine CU (h3 _) ?_)
 |(with_reducible refine ay hQ ?_;exact aK))
open Go.RowKit Go.ChangeShapes Go.WideShapes
def Qe (w:World) (b o:Nat):Option Value:=
 match w.cell? ⟨b,o,none⟩with
 |some v=>if v.oneCell'=true then some v else none
 |none=>none
theorem aaA {w:World} (b o:Nat) (v:Value) (h:Qe w b o=some v):w.cell? ⟨b,o,none⟩=some v∧v.oneCell'=true:=by
 unfold Qe at h
 split at h
 ·split at h
  ·cases h;exact⟨‹_›, ‹_›⟩
  ·cases h
 ·cases h
def ad6 (w:World):Map:=⟨Qe w,fun _=>(0, .any),fun _=>none⟩
theorem Kept.sameAt {w w':World} (h:Kept w w') {p:MemPlace} (hp:p.block<w.heap.size):w.sameAt w' p:=by
 have hk:=h.1.2.2 p.block hp
 cases p with
 | cell b off=>
  simp only[MemPlace.block]at hk hp
  simp only[World.sameAt,World.cell?]
  split at hk
  ·rename_i c t fr c' t' fr' e e'
   rw[e,e']
   simp only[hk.2.2.2 off (fun f=>f)]
  ·rename_i es clock zL ad7 e e'
   rw[e,e']
  ·rw[hk]
 | map b=>
  simp only[MemPlace.block]at hk hp
  simp only[World.sameAt]
  split at hk
  ·rename_i c t fr c' t' fr' e e'
   rw[e,e']
   obtain⟨rfl,rfl,hs,hc⟩:=hk
   have:c'=c:=by
    apply Array.ext_getElem?
    intro i
    exact hc i (fun f=>f)
   rw[this]
  ·rename_i es clock zL ad7 e e'
   rcases hk with f|⟨rfl,rfl⟩
   ·exact f.elim
   ·rw[e,e']
  ·exact hk
section
variable {P:Program} {H:Type} {enc:TypeId×Value→H} {T:TypeId→Prop}
theorem En (K:Kids P T) (hz : ∀ {t e:TypeId},T t→P.underlying t=some (.slice e)→0<P.cellsOf e) {W W':World} (hk:Kept W W') {sp:Nat→Bool} :
 ∀ {ts:List TypeId} {vs:List Value} {ds:List (DataW H)} {ps:List MemPlace},(∀ t∈ts,T t)→(∀ p∈ps,p.block<W.heap.size)→(∀ p∈ps,sp p.block=true)→
  DataW.TrodAll enc P W 0 (fun _=>true) true ts vs ds ps→DataW.TrodAll enc P W' 0 sp true ts vs ds ps
 | [],[],[],_,_,_,_,h=>h
 |t::ts,v::vs,d::ds,ps,hT,hC,hs,⟨p,q,⟨n,h1⟩,h2,e⟩=>by
  subst e
  refine⟨p,q,⟨n,DataW.trod_stays K hz (fun f=>by cases f) (hT t (zaE ..)) h1 (fun x hx=>hk.sameAt (hC x (zbb _ hx))) (fun x hx=>hs x (zbb _ hx))⟩, ?_,rfl⟩
  exact En K hz hk (fun t ht=>hT t (zaA _ ht)) (fun x hx=>hC x (zbs _ hx)) (fun x hx=>hs x (zbs _ hx)) h2
 | [],[],_::_,_,_,_,_,h=>h.elim
 | [],_::_,_,_,_,_,_,h=>h.elim
 |_::_,[],_,_,_,_,_,h=>h.elim
 |_::_,_::_,[],_,_,_,_,h=>h.elim
theorem Xt (K:Kids P T) (hz : ∀ {t e:TypeId},T t→P.underlying t=some (.slice e)→0<P.cellsOf e) {f:Func} {s:ChangeSpec} {apart fresh handsOn again:Bool} {tb:TypeId} {W W':World} {args:Array Value} {ds gs:List (DataW H)} {before:List MemPlace}
 (hT : ∀ t∈f.params.toList,T t) (hb:P.underlying tb=some .bool) (hr:f.resultTypes = #[tb]) (Eg:s.vars = []) (hW:DataW.Whole enc P f.params.toList s.vars apart W args.toList ds gs before)
 (vC:s.fn H (ds++gs) = {results:= [.lit (.bool true)],args:=ds}) (hk:Kept W W'):s.post enc P f apart fresh handsOn again W args (.bool true) W':=by
 have hW':=hW
 have hC : ∀ p∈before,p.block<W.heap.size:=fun p hp=>hW.lt p hp
 obtain⟨p,q,hA,hV,rfl,hfz,hnd⟩:=hW
 rw[Eg]at hV
 obtain⟨rfl,rfl⟩:=trodVars_none hV
 simp only[zaJ]at hC vC
 refine J0 (pa:=p) (pv:= []) hW' (fun b sp hd=>?_) (fun sp oH=>?_) (fun sp oH=>?_) rfl hk (ok_one hr rfl (okWide_bool_mk hb _))
 ·rw [zaJ,vC,hr]
  exact trodAll_cons_mk (shut_bool hb _) trodAll_mk0
 ·rw [zaJ,vC]
  simp only[zaJ]at oH
  exact En K hz hk hT hC oH hA
 ·rw [zaJ,vC,Eg]
  rfl
theorem aaB {f:FuncId} {args:List D} {fJ:Array Value} {w:World} (h:dG P f args S0 fun d _=>d = .bool true) (hl:fJ.size=args.length)
 (ha : ∀ (i:Nat) (d:D) (v:Value),args[i]? = some d→fJ[i]? = some v→RD (ad6 w) S0 d v) (kp:PV w):Calls P f fJ w fun e w'=>e = .returned (.bool true)∧Kept w w':=
 Ti (G:=Qe w) h aaA hl ha kp
end
end Go.Abs
namespace Go.Abs
open Go.RowKit Go.ChangeShapes Go.WideShapes
end Go.Abs
namespace Go.Abs
open Go.RowKit Go.ChangeShapes Go.WideShapes
def ale (W:World) (ds:List D) (cs:List Value):Prop:=ds.length=cs.length∧(∀ (i:Nat) (d:D) (v:Value),ds[i]? = some d→cs[i]? = some v→RD (ad6 W) S0 d v)∧∀ v∈cs,v.oneCell'=true
section
variable {H:Type} {enc:TypeId×Value→H} {P:Program} {W:World} {sp:Nat→Bool}
def structOf (P:Program) (t:TypeId):List (TypeId×Nat):=
 match P.underlying t with
 |some (.struct fs)=>fs.toList.map fun f=>(f.type,f.offset)
 |_=> []
end
end Go.Abs
namespace Go.Abs
open Go.Proofs Go.RowKit Go.ChangeShapes Go.WideShapes
section
variable {H:Type} {enc:TypeId×Value→H} {W:World} {sp:Nat→Bool}
end
end Go.Abs
namespace Go.Abs
open Go.Proofs Go.ChangeShapes Go.WideShapes Go.ChangeAt Go.RowKit
theorem TX {H:Type} {enc:TypeId×Value→H} {P:Program} {W:World} {sp:Nat→Bool} {t:TypeId} {ts:List TypeId} {ps:List MemPlace} : ∀ {l:List Value} {ds:List (DataW H)},DataW.TrodAll enc P W 0 sp true (t::ts) l ds ps→
 ∃ v l' d rn p q,l=v::l'∧ds=d::rn∧DataW.Trod enc P W 0 sp true t v d p∧DataW.TrodAll enc P W 0 sp true ts l' rn q
 |v::l,d::ds,⟨p,q,h1,h2,e⟩=>⟨v,l,d,ds,p,q,rfl,rfl,h1,h2⟩
 | [],[],h=>h.elim
 | [],_::_,h=>h.elim
 |_::_,[],h=>h.elim
theorem Xu {H:Type} {enc:TypeId×Value→H} {P:Program} {W:World} {sp:Nat→Bool} {ps:List MemPlace} : ∀ {l:List Value} {ds:List (DataW H)},DataW.TrodAll enc P W 0 sp true [] l ds ps→l = []∧ds = []
 | [],[],_=>⟨rfl,rfl⟩
 | [],_::_,h=>h.elim
 |_::_,ds,h=>by cases ds<;>exact h.elim
end Go.Abs
