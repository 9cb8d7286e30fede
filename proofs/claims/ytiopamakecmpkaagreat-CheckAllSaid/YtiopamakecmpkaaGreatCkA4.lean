/-
  What is proved here: part 4 of the road to the claim (Tc2, Tc3, Bsl, Tc4, Tc5, Tc6, Tc7, ScPr, FlP, JmpP, Jm1, Jm2, Jm3, Rj1, Rj2, Swap0, Swap2p, ToP, Al1, Al2, Al3, Prs3, Prs4, Prs5, Prs6, Lex3, MirParse, Prs7, Room1, Al4, Full1, Fits1, Fits2, MirEq, RefEq, RefEq2, LawTo1, AlP, LawAl2, SwP, Ck1, Tot, Tot2, Tot3, Parsed2, RefLex2, RefLex3, Ref4, Ref5, Ref6, MirNum, Ref7, Ref8, Ref9, Ref10, Glue2, LawAll, Ck2, MayLaw, MayLaw2, MayLaw3, Lx, Lx2).
  No conditions.
-/
import Derived.Test.YtiopamakecmpkaaGreatCkA3
import Derived.KernelRfl
import Derived.RowKit3
import Derived.Test.YtiopamakecmpkaaGreatRows
import Derived.WalkKit
import Derived.ProofKit
import Derived.OpenShut
import Derived.ShutString
import Derived.ChangeMaps5

set_option linter.unusedSimpArgs false
set_option linter.unusedVariables false

/-! Tc2 -/

namespace Go.Abs
set_option maxRecDepth 8000
open Go.Proofs
theorem Ul {p:Pg} (h:p.iC) (hb:p.may=true) {name:aF} {f:Pc} (hf:p.find name=some f) (s:St):aE Tryz.prog vf [.agg (bH p), .str name] s (.slice .shared 1 (f.calls.map encStr)) s:=by
 refine aE.pure ?_ (by simp [D.bR,D.ok,fX]) (by simp only [D.ok,Tag.ok,dJ];rfl) s
 obtain⟨oP,nq,pG⟩:=h.procs
 have ra:=fun s=>Bp (p:=p) (by omega) name s
 have mZ:=(mh hf).1
 have uH:Sm.aS f.body<4611686018427387000:=by have:=Pc.bV mZ;simp only [Pc.size]at this;omega
 have jK:=fun s=>x3 (f:=f) uH s
 have pb:=(pf hb).1 f mZ
 have Fb:f.flat.length≤201:=f.qn
 simp only [hf,jv,Option.getD_some,Option.isSome_some]at ra
 obtain⟨R,hR⟩ : ∃ R,R=jw (Sm.dN f.body):=⟨_,rfl⟩
 have Wp:R.length≤201:=by rw [hR, ← pb];have:=xj (f.flat.map It.s);rw [List.length_map]at this;omega
 have Uk:f.calls=gL R:=by unfold Pc.calls;rw [hR]
 rw [Uk]
 unfold S0
 refine aE.go EU rfl fun B Q hB hQ=> ?_
 have⟨hF,hP,hY,hZ⟩:=bq
 repeat' (first
 | simp only [go_sem,hF,hP,hY,hZ]
 | (with_reducible refine CU (ra _) ?_)
 | (with_reducible refine CU (jK _) ?_)
 | (with_reducible refine aC hQ ?_;simp only [au,aw,Option.some.injEq,exists_eq_left',go_sem,hF,hP,hY,hZ];repeat' (first | exact Ok.out | with_reducible refine aB ?_ ?_ | (simp;done))))
 refine a8.jB 7 1 rfl ?_
 simp only [go_sem,hF,hP,hY,hZ]
 refine cd 0 1 (a8.ind (ι:=List It×Nat×List aF×Nat) (fun i=>f.flat.drop i.2.1=i.1∧i.2.2.1++jw (i.1.map It.s)=R∧i.2.2.2=i.2.2.1.length) (fun i=>i.1.length)
  (fun i=> [(7, .slice (.tok 0) 1 (i.2.2.1.map encStr)),(17, .slice .shared 16 (f.flat.map ej)),(18, .int .i64 (f.flat.length:Int)),(19, .int .i64 (i.2.1:Int))]) (fun i=>⟨[],[some i.2.2.2]⟩) ?_ (f.flat,0,[],0) ⟨rfl,by rw [hR,pb];rfl,rfl⟩)
 rintro⟨rest,k,out,n⟩ ⟨h1,h2,h3⟩ IH
 dsimp only at h1 h2 h3
 subst h3
 have oM:out.length≤201:=by have:=congrArg List.length h2;rw [List.length_append]at this;omega
 cases rest with
 | cons a rest=>
  obtain⟨hP,g2,hF,g4⟩:=drop_cons h1
  have bl:k<4611686018427387904:=by omega
  have hY:(out.length+1)*17≤bc:=by unfold bc;omega
  simp only [List.map_cons,jw]at h2
  rcases Bool.eq_false_or_eq_true (a.s.kind==4)with c1 | c1
  ·simp only [c1,if_true]at h2
   repeat' (first
 | simp only [go_sem,hF,hP,hY,hZ,c1]
 | (with_reducible refine aC hQ ?_;simp only [au,aw,Option.some.injEq,exists_eq_left',go_sem,hF,hP,hY,hZ];repeat' (first | exact Ok.out | with_reducible refine aB ?_ ?_ | (simp;done))))
   refine ct 0 1 ?_ ?_ (IH (rest,k+1,out++ [a.s.proc],out.length+1) ⟨g2,by rw [← h2];simp,by simp⟩ (Nat.lt_succ_self _))
   ·(simp only [go_sem,hF,hP,hY,hZ,az bl,List.map_append,List.map_cons,List.map_nil,encStr];try exact aU)
   ·(simp only [go_sem,hF,hP,hY,hZ,az bl,List.map_append,List.map_cons,List.map_nil,encStr];try exact aU)
  ·simp only [c1,Bool.false_eq_true,if_false]at h2
   repeat' (first
 | simp only [go_sem,hF,hP,hY,hZ,c1]
 | (with_reducible refine aC hQ ?_;simp only [au,aw,Option.some.injEq,exists_eq_left',go_sem,hF,hP,hY,hZ];repeat' (first | exact Ok.out | with_reducible refine aB ?_ ?_ | (simp;done))))
   refine ct 0 1 ?_ ?_ (IH (rest,k+1,out,_) ⟨g2,h2,rfl⟩ (Nat.lt_succ_self _))
   ·(simp only [go_sem,hF,hP,hY,hZ,az bl];try exact aU)
   ·(simp only [go_sem,hF,hP,hY,hZ,az bl];try exact aU)
 | nil=>
  have hF:=drop_nil h1
  simp only [List.map_nil,jw,List.append_nil]at h2
  subst h2
  have QU:=fun s=>CA (l:=out) (by omega) (.tok 0) s
  repeat' (first
 | simp only [go_sem,hF,hP,hY,hZ]
 | (with_reducible refine CU (QU _) ?_)
 | (with_reducible refine aC hQ ?_;simp only [au,aw,Option.some.injEq,exists_eq_left',go_sem,hF,hP,hY,hZ];repeat' (first | exact Ok.out | with_reducible refine aB ?_ ?_ | (simp;done))))
theorem Gd {name:aF} : ∀ {l:List Pc},name∈l.map (·.name)→∃ f,jr name l=some f
 | f::l,h=>by
  simp only [jr]
  cases e:(f.name==name)
  ·simp only [Bool.false_eq_true,if_false]
   refine Gd ?_
   rcases List.mem_cons.1 h with h | h
   ·rw [h]at e;simp at e
   ·exact h
  ·exact⟨f,rfl⟩
theorem Ge {p:Pg} {f:Pc} {procs:List aF} : ∀ {l:List Sm},tz p f procs l=none→∀ v∈l,v.known p f procs=true
 | v::l,h,w,m=>by
  simp only [tz]at h
  split at h
  ·rename_i e
   rcases List.mem_cons.1 m with rfl | m
   ·exact e
   ·exact Ge h w m
  ·cases h
theorem Gf {p:Pg} {procs:List aF} : ∀ {l:List Pc},((p8 p procs l).1==0)=true→∀ f∈l,eH (p.globals++f.own)=false∧∀ v∈Sm.dN f.body,v.known p f procs=true
 | g::l,h,f,m=>by
  simp only [p8]at h
  split at h
  ·cases h
  ·rename_i e
   split at h
   ·cases h
   ·rename_i e2
    rcases List.mem_cons.1 m with rfl | m
    ·exact⟨by simpa using e,Ge e2⟩
    ·exact Gf h f m
theorem Jk {p:Pg} (h:(p.scope.1==0)=true):eH p.globals=false∧eH p.pn=false∧p.p9=false∧∀ f∈p.procs,eH (p.globals++f.own)=false∧∀ v∈Sm.dN f.body,v.known p f p.pn=true:=by
 unfold Pg.scope at h
 split at h
 ·split at h
  ·cases h
  ·rename_i e
   simp only [Bool.or_eq_true,not_or,Bool.not_eq_true]at e
   exact⟨e.1,e.2.1,e.2.2,Gf h⟩
 ·cases h
theorem xk {x:aF} : ∀ {l:List Sm},x∈jw l↔∃ v∈l,v.kind=4∧v.proc=x
 | []=>by simp [jw]
 | v::l=>by
  simp only [jw]
  cases e:(v.kind==4)
  ·have:v.kind≠4:=by simpa using e
   simp [this,xk (l:=l)]
  ·have:v.kind=4:=by simpa using e
   simp only [if_true,List.mem_cons,xk (l:=l),exists_eq_or_imp,this,true_and]
   constructor
   ·rintro(h | h)
    ·exact .inl h.symm
    ·exact .inr h
   ·rintro(h | h)
    ·exact .inl h.symm
    ·exact .inr h
theorem QV {f:Pc} {x:aF} : x∈f.calls↔∃ v∈Sm.dN f.body,v.kind=4∧v.proc=x:=by
 unfold Pc.calls;rw [(kU _).2,xk]
theorem xl {p:Pg} (h:(p.scope.1==0)=true) {f:Pc} (hf:f∈p.procs) {x:aF} (m:x∈f.calls) : ∃ g,p.find x=some g:=by
 obtain⟨v,hv,h4,rfl⟩:=QV.1 m
 have hk:=((Jk h).2.2.2 f hf).2 v hv
 simp only [Sm.known,h4,Bool.and_eq_true,Bool.or_eq_true]at hk
 rcases hk.2 with h | ⟨_,h⟩
 ·simp at h
 ·exact Gd ((gl _ _).1 h)
def x7 (p:Pg) (x:aF):List aF:=match p.find x with | some f=>f.calls | none=> []
def rj (out:List aF):List aF→List aF
 | []=>out
 | x::l=>rj (lW out x) l
def qg (p:Pg):Nat→Nat→List aF→List aF
 | 0,_,out=>out
 | n+1,i,out=>match out[i]? with
  | some x=>qg p n (i+1) (rj out (x7 p x))
  | none=>out
def Pg.work (p:Pg) (name:aF):List aF:=qg p (p.procs.length+1) 0 [name]
def Good (p:Pg) (out:List aF):Prop:=out.Nodup∧∀ x∈out,∃ f,p.find x=some f
theorem Good.len {p:Pg} {out:List aF} (h:Good p out):out.length≤p.procs.length:=by
 have:=wz out p.pn h.1 fun x m=>by
  obtain⟨f,hf⟩:=h.2 x m
  obtain⟨h1,h2⟩:=mh hf
  rw [← h2];exact List.mem_map_of_mem h1
 simpa [Pg.pn]using this
theorem Good.Wq {p:Pg} {out:List aF} (h:Good p out) {x:aF} (hx : ∃ f,p.find x=some f):Good p (lW out x):=by
 unfold lW
 split
 ·exact h
 ·rename_i e
  have:x∉out:=fun m=>e ((gl _ _).2 m)
  refine⟨List.nodup_append.2 ⟨h.1,by simp,fun a ha b hb e'=> ?_⟩,fun y hy=> ?_⟩
  ·have hbx:b=x:=by simpa using hb
   rw [e',hbx]at ha;exact this ha
  ·rcases List.mem_append.1 hy with hy | hy
   ·exact h.2 y hy
   ·have:y=x:=by simpa using hy
    subst this;exact hx
theorem Good.add {p:Pg} : ∀ {l out:List aF},Good p out→(∀ x∈l,∃ f,p.find x=some f)→Good p (rj out l)
 | [],out,h,_=>h
 | x::l,out,h,hx=>Good.add (l:=l) (out:=lW out x) (Good.Wq h (hx x List.mem_cons_self)) fun y m=>hx y (List.mem_cons_of_mem _ m)
end Go.Abs

/-! Tc3 -/

namespace Go.Abs
set_option maxRecDepth 8000
open Go.Proofs
def QW:Bool→Tag
 | true=> .tok 0
 | false=> .full
def QX:Bool→Nat→List (Option Nat)
 | true,n=> [some n]
 | false,_=> []
theorem eO:QW true = .tok 0:=rfl
theorem eQ:QW false = .full:=rfl
theorem nK (n:Nat):QX true n = [some n]:=rfl
theorem nL (n:Nat):QX false n = []:=rfl
theorem Jl {l:List aF} {x:aF} (h:(l.length+1)*17≤bc) {g:Tag} (o:List (List D)) :
 gy 1 16 (.slice .full 1 (l.map encStr)) (.slice g 1 [[.str x]]) ⟨o,[]⟩=some (.slice (.tok 0) 1 (l.map encStr++ [[.str x]]),⟨o,[some (l.length+1)]⟩):=by
 simp [gy,h]
theorem QY {p:Pg} (h:p.iC) (jb:(p.scope.1==0)=true) {name:aF} {f:Pc} (hf:p.find name=some f) (s:St):aE Tryz.prog tq [.agg (bH p), .str name] s (.slice .shared 1 ((gL (p.work name)).map encStr)) s:=by
 refine aE.pure ?_ (by simp [D.bR,D.ok,fX]) (by simp only [D.ok,Tag.ok,dJ];rfl) s
 obtain⟨oP,nq,pG⟩:=h.procs
 have hb:=nr jb
 obtain⟨R,hR⟩ : ∃ R,p.work name=R:=⟨_,rfl⟩
 rw [hR]
 unfold Pg.work at hR
 have hg0:Good p [name]:=⟨by simp,fun x m=>by
  have:x=name:=by simpa using m
  subst this;exact⟨f,hf⟩⟩
 unfold S0
 refine aE.go Dn rfl fun B Q hB hQ=> ?_
 have⟨hF,hP,hY,hZ⟩:=bq
 repeat' (first
 | simp only [go_sem,hF,hP,hY,hZ]
 | (with_reducible refine aC hQ ?_;simp only [au,aw,Option.some.injEq,exists_eq_left',go_sem,hF,hP,hY,hZ];repeat' (first | exact Ok.out | with_reducible refine aB ?_ ?_ | (simp;done))))
 refine ct 1 0 ?_ ?_ (a8.ind (ι:=Nat×Nat×List aF×Bool×Nat) (fun i=>qg p i.1 i.2.1 i.2.2.1=R∧Good p i.2.2.1∧i.1+i.2.1=p.procs.length+1∧i.2.2.2.2=i.2.2.1.length) (fun i=>i.1)
  (fun i=> [(2, .ptr 0 0),(5, .slice (QW i.2.2.2.1) 1 (i.2.2.1.map encStr)),(6, .int .i64 (i.2.1:Int))]) (fun i=>⟨[bH p],QX i.2.2.2.1 i.2.2.2.2⟩) ?_ (p.procs.length+1,0,[name],false,1) ⟨hR,hg0,rfl,rfl⟩)
 ·(simp only [go_sem,hF,hP,hY,hZ,eQ,eO];try exact aU)
 ·(simp only [go_sem,hF,hP,hY,hZ,eQ,eO];try exact aU)
 rintro⟨n,i,out,b,no⟩ ⟨h1,h2,h3,h4⟩ IH
 dsimp only at h1 h2 h3 h4
 subst h4
 have oM:=h2.len
 cases hx:out[i]? with
 | none=>
  have hF:decide ((i:Int)<(out.length:Int))=false:=by have:=List.getElem?_eq_none_iff.1 hx;simp;omega
  have:R=out:=by
   cases n with
   | zero=>simpa [qg]using h1.symm
   | succ n=>simp only [qg,hx]at h1;exact h1.symm
  subst this
  cases b
  all_goals
   have QU:=fun g s=>CA (l:=R) (by omega) g s
   repeat' (first
 | simp only [go_sem,hF,hP,hY,hZ,eO,eQ,nK,nL]
 | (with_reducible refine CU (QU _ _) ?_)
 | (with_reducible refine aC hQ ?_;simp only [au,aw,Option.some.injEq,exists_eq_left',go_sem,hF,hP,hY,hZ];repeat' (first | exact Ok.out | with_reducible refine aB ?_ ?_ | (simp;done))))
 | some x=>
  have pF:=(List.getElem?_eq_some_iff.1 hx).1
  have hF:decide ((i:Int)<(out.length:Int))=true:=by simp;omega
  have qI:i<4611686018427387904:=by omega
  cases n with
  | zero=>omega
  | succ n=>
  simp only [qg,hx]at h1
  obtain⟨g,vu⟩:=h2.2 x (List.mem_of_getElem? hx)
  have DR:=(mh vu).1
  have BY:=fun s=>Ul h hb vu s
  have hcn:x7 p x=g.calls:=by unfold x7;rw [vu]
  rw [hcn]at h1
  have Jm : ∀ y∈g.calls,∃ f,p.find y=some f:=fun y m=>xl jb DR m
  have apf:g.calls.length≤p.procs.length:=Good.len ⟨ri (kU _).1,Jm⟩
  obtain⟨W,hW⟩ : ∃ W,rj out g.calls=W:=⟨_,rfl⟩
  have hWg:Good p W:=hW ▸ h2.add Jm
  rw [hW]at h1
  cases b
  ·repeat' (first
 | simp only [go_sem,hF,hP,hY,hZ,eO,eQ,nK,nL,hx]
 | (with_reducible refine CU (BY _) ?_)
 | (with_reducible refine aC hQ ?_;simp only [au,aw,Option.some.injEq,exists_eq_left',go_sem,hF,hP,hY,hZ];repeat' (first | exact Ok.out | with_reducible refine aB ?_ ?_ | (simp;done))))
   refine ct 1 0 ?_ ?_ (a8.ind (ι:=List aF×Nat×List aF×Bool×Nat) (fun j=>g.calls.drop j.2.1=j.1∧rj j.2.2.1 j.1=W∧Good p j.2.2.1∧j.2.2.2.2=j.2.2.1.length) (fun j=>j.1.length)
    (fun j=> [(2, .ptr 0 0),(5, .slice (QW j.2.2.2.1) 1 (j.2.2.1.map encStr)),(6, .int .i64 (i:Int)),(22, .slice .shared 1 (g.calls.map encStr)),(23, .int .i64 (g.calls.length:Int)),(24, .int .i64 (j.2.1:Int))]) (fun j=>⟨[bH p],QX j.2.2.2.1 j.2.2.2.2⟩) ?_ (g.calls,0,out,false,out.length) ⟨rfl,hW,h2,rfl⟩)
   ·(simp only [go_sem,hF,hP,hY,hZ,eQ,eO];try exact aU)
   ·(simp only [go_sem,hF,hP,hY,hZ,eQ,eO];try exact aU)
   clear hW
   rintro⟨rest,k,bC,b',n'⟩ ⟨j1,j2,j3,j4⟩ oD
   dsimp only at j1 j2 j3 j4
   subst j4
   have aaW:=j3.len
   cases rest with
   | nil=>
    have A1:=drop_nil j1
    simp only [rj]at j2
    subst j2
    cases b'
    ·repeat' (first
 | simp only [go_sem,hF,hP,hY,hZ,eO,eQ,nK,nL,A1]
 | (with_reducible refine aC hQ ?_;simp only [au,aw,Option.some.injEq,exists_eq_left',go_sem,hF,hP,hY,hZ];repeat' (first | exact Ok.out | with_reducible refine aB ?_ ?_ | (simp;done))))
     refine ct 1 0 ?_ ?_ (IH (n,i+1,bC,false,bC.length) ⟨h1,j3,by dsimp only;omega,rfl⟩ (Nat.lt_succ_self _))
     ·(simp only [go_sem,hF,hP,hY,hZ,eQ,eO,az qI];try exact aU)
     ·(simp only [go_sem,hF,hP,hY,hZ,eQ,eO,az qI];try exact aU)
    ·repeat' (first
 | simp only [go_sem,hF,hP,hY,hZ,eO,eQ,nK,nL,A1]
 | (with_reducible refine aC hQ ?_;simp only [au,aw,Option.some.injEq,exists_eq_left',go_sem,hF,hP,hY,hZ];repeat' (first | exact Ok.out | with_reducible refine aB ?_ ?_ | (simp;done))))
     refine ct 1 1 ?_ ?_ (IH (n,i+1,bC,true,_) ⟨h1,j3,by dsimp only;omega,rfl⟩ (Nat.lt_succ_self _))
     ·(simp only [go_sem,hF,hP,hY,hZ,eQ,eO,az qI];try exact aU)
     ·(simp only [go_sem,hF,hP,hY,hZ,eQ,eO,az qI];try exact aU)
   | cons y rest=>
    obtain⟨e7,my,hO,DK⟩:=drop_cons j1
    have fA:k<4611686018427387904:=by omega
    have hY:(bC.length+1)*17≤bc:=by unfold bc;omega
    have jW:=fun g s=>xf (l:=bC) (by omega) y g s
    have dh:=fun o=>Jl (l:=bC) (x:=y) hY (g:= .full) o
    have hy:=Jm y (List.mem_of_getElem? e7)
    have oW:=j3.Wq hy
    simp only [rj]at j2
    rcases Bool.eq_false_or_eq_true (dL bC y)with c1 | c1
    ·simp only [lW,c1,if_true]at j2
     cases b'
     ·repeat' (first
 | simp only [go_sem,hF,hP,hY,hZ,eO,eQ,nK,nL,hO,e7,c1]
 | (with_reducible refine CU (jW _ _) ?_)
 | (with_reducible refine aC hQ ?_;simp only [au,aw,Option.some.injEq,exists_eq_left',go_sem,hF,hP,hY,hZ];repeat' (first | exact Ok.out | with_reducible refine aB ?_ ?_ | (simp;done))))
      refine ct 1 0 ?_ ?_ (oD (rest,k+1,bC,false,bC.length) ⟨my,j2,j3,rfl⟩ (Nat.lt_succ_self _))
      ·(simp only [go_sem,hF,hP,hY,hZ,eQ,eO,az fA];try exact aU)
      ·(simp only [go_sem,hF,hP,hY,hZ,eQ,eO,az fA];try exact aU)
     ·repeat' (first
 | simp only [go_sem,hF,hP,hY,hZ,eO,eQ,nK,nL,hO,e7,c1]
 | (with_reducible refine CU (jW _ _) ?_)
 | (with_reducible refine aC hQ ?_;simp only [au,aw,Option.some.injEq,exists_eq_left',go_sem,hF,hP,hY,hZ];repeat' (first | exact Ok.out | with_reducible refine aB ?_ ?_ | (simp;done))))
      refine ct 1 1 ?_ ?_ (oD (rest,k+1,bC,true,_) ⟨my,j2,j3,rfl⟩ (Nat.lt_succ_self _))
      ·(simp only [go_sem,hF,hP,hY,hZ,eQ,eO,az fA];try exact aU)
      ·(simp only [go_sem,hF,hP,hY,hZ,eQ,eO,az fA];try exact aU)
    ·simp only [lW,c1,Bool.false_eq_true,if_false]at j2 oW
     cases b'
     ·repeat' (first
 | simp only [go_sem,hF,hP,hY,hZ,eO,eQ,nK,nL,hO,e7,c1,dh]
 | (with_reducible refine CU (jW _ _) ?_)
 | (with_reducible refine aC hQ ?_;simp only [au,aw,Option.some.injEq,exists_eq_left',go_sem,hF,hP,hY,hZ];repeat' (first | exact Ok.out | with_reducible refine aB ?_ ?_ | (simp;done))))
      refine ct 1 1 ?_ ?_ (oD (rest,k+1,bC++ [y],true,bC.length+1) ⟨my,j2,oW,by simp⟩ (Nat.lt_succ_self _))
      ·(simp only [go_sem,hF,hP,hY,hZ,eQ,eO,az fA,List.map_append,List.map_cons,List.map_nil,encStr];try exact aU)
      ·(simp only [go_sem,hF,hP,hY,hZ,eQ,eO,az fA,List.map_append,List.map_cons,List.map_nil,encStr];try exact aU)
     ·repeat' (first
 | simp only [go_sem,hF,hP,hY,hZ,eO,eQ,nK,nL,hO,e7,c1]
 | (with_reducible refine CU (jW _ _) ?_)
 | (with_reducible refine aC hQ ?_;simp only [au,aw,Option.some.injEq,exists_eq_left',go_sem,hF,hP,hY,hZ];repeat' (first | exact Ok.out | with_reducible refine aB ?_ ?_ | (simp;done))))
      refine ct 1 1 ?_ ?_ (oD (rest,k+1,bC++ [y],true,bC.length+1) ⟨my,j2,oW,by simp⟩ (Nat.lt_succ_self _))
      ·(simp only [go_sem,hF,hP,hY,hZ,eQ,eO,az fA,List.map_append,List.map_cons,List.map_nil,encStr];try exact aU)
      ·(simp only [go_sem,hF,hP,hY,hZ,eQ,eO,az fA,List.map_append,List.map_cons,List.map_nil,encStr];try exact aU)
  ·repeat' (first
 | simp only [go_sem,hF,hP,hY,hZ,eO,eQ,nK,nL,hx]
 | (with_reducible refine CU (BY _) ?_)
 | (with_reducible refine aC hQ ?_;simp only [au,aw,Option.some.injEq,exists_eq_left',go_sem,hF,hP,hY,hZ];repeat' (first | exact Ok.out | with_reducible refine aB ?_ ?_ | (simp;done))))
   refine ct 1 1 ?_ ?_ (a8.ind (ι:=List aF×Nat×List aF×Bool×Nat) (fun j=>g.calls.drop j.2.1=j.1∧rj j.2.2.1 j.1=W∧Good p j.2.2.1∧j.2.2.2.2=j.2.2.1.length) (fun j=>j.1.length)
    (fun j=> [(2, .ptr 0 0),(5, .slice (QW j.2.2.2.1) 1 (j.2.2.1.map encStr)),(6, .int .i64 (i:Int)),(22, .slice .shared 1 (g.calls.map encStr)),(23, .int .i64 (g.calls.length:Int)),(24, .int .i64 (j.2.1:Int))]) (fun j=>⟨[bH p],QX j.2.2.2.1 j.2.2.2.2⟩) ?_ (g.calls,0,out,true,out.length) ⟨rfl,hW,h2,rfl⟩)
   ·(simp only [go_sem,hF,hP,hY,hZ,eQ,eO];try exact aU)
   ·(simp only [go_sem,hF,hP,hY,hZ,eQ,eO];try exact aU)
   clear hW
   rintro⟨rest,k,bC,b',n'⟩ ⟨j1,j2,j3,j4⟩ oD
   dsimp only at j1 j2 j3 j4
   subst j4
   have aaW:=j3.len
   cases rest with
   | nil=>
    have A1:=drop_nil j1
    simp only [rj]at j2
    subst j2
    cases b'
    ·repeat' (first
 | simp only [go_sem,hF,hP,hY,hZ,eO,eQ,nK,nL,A1]
 | (with_reducible refine aC hQ ?_;simp only [au,aw,Option.some.injEq,exists_eq_left',go_sem,hF,hP,hY,hZ];repeat' (first | exact Ok.out | with_reducible refine aB ?_ ?_ | (simp;done))))
     refine ct 1 0 ?_ ?_ (IH (n,i+1,bC,false,bC.length) ⟨h1,j3,by dsimp only;omega,rfl⟩ (Nat.lt_succ_self _))
     ·(simp only [go_sem,hF,hP,hY,hZ,eQ,eO,az qI];try exact aU)
     ·(simp only [go_sem,hF,hP,hY,hZ,eQ,eO,az qI];try exact aU)
    ·repeat' (first
 | simp only [go_sem,hF,hP,hY,hZ,eO,eQ,nK,nL,A1]
 | (with_reducible refine aC hQ ?_;simp only [au,aw,Option.some.injEq,exists_eq_left',go_sem,hF,hP,hY,hZ];repeat' (first | exact Ok.out | with_reducible refine aB ?_ ?_ | (simp;done))))
     refine ct 1 1 ?_ ?_ (IH (n,i+1,bC,true,_) ⟨h1,j3,by dsimp only;omega,rfl⟩ (Nat.lt_succ_self _))
     ·(simp only [go_sem,hF,hP,hY,hZ,eQ,eO,az qI];try exact aU)
     ·(simp only [go_sem,hF,hP,hY,hZ,eQ,eO,az qI];try exact aU)
   | cons y rest=>
    obtain⟨e7,my,hO,DK⟩:=drop_cons j1
    have fA:k<4611686018427387904:=by omega
    have hY:(bC.length+1)*17≤bc:=by unfold bc;omega
    have jW:=fun g s=>xf (l:=bC) (by omega) y g s
    have dh:=fun o=>Jl (l:=bC) (x:=y) hY (g:= .full) o
    have hy:=Jm y (List.mem_of_getElem? e7)
    have oW:=j3.Wq hy
    simp only [rj]at j2
    rcases Bool.eq_false_or_eq_true (dL bC y)with c1 | c1
    ·simp only [lW,c1,if_true]at j2
     cases b'
     ·repeat' (first
 | simp only [go_sem,hF,hP,hY,hZ,eO,eQ,nK,nL,hO,e7,c1]
 | (with_reducible refine CU (jW _ _) ?_)
 | (with_reducible refine aC hQ ?_;simp only [au,aw,Option.some.injEq,exists_eq_left',go_sem,hF,hP,hY,hZ];repeat' (first | exact Ok.out | with_reducible refine aB ?_ ?_ | (simp;done))))
      refine ct 1 0 ?_ ?_ (oD (rest,k+1,bC,false,bC.length) ⟨my,j2,j3,rfl⟩ (Nat.lt_succ_self _))
      ·(simp only [go_sem,hF,hP,hY,hZ,eQ,eO,az fA];try exact aU)
      ·(simp only [go_sem,hF,hP,hY,hZ,eQ,eO,az fA];try exact aU)
     ·repeat' (first
 | simp only [go_sem,hF,hP,hY,hZ,eO,eQ,nK,nL,hO,e7,c1]
 | (with_reducible refine CU (jW _ _) ?_)
 | (with_reducible refine aC hQ ?_;simp only [au,aw,Option.some.injEq,exists_eq_left',go_sem,hF,hP,hY,hZ];repeat' (first | exact Ok.out | with_reducible refine aB ?_ ?_ | (simp;done))))
      refine ct 1 1 ?_ ?_ (oD (rest,k+1,bC,true,_) ⟨my,j2,j3,rfl⟩ (Nat.lt_succ_self _))
      ·(simp only [go_sem,hF,hP,hY,hZ,eQ,eO,az fA];try exact aU)
      ·(simp only [go_sem,hF,hP,hY,hZ,eQ,eO,az fA];try exact aU)
    ·simp only [lW,c1,Bool.false_eq_true,if_false]at j2 oW
     cases b'
     ·repeat' (first
 | simp only [go_sem,hF,hP,hY,hZ,eO,eQ,nK,nL,hO,e7,c1,dh]
 | (with_reducible refine CU (jW _ _) ?_)
 | (with_reducible refine aC hQ ?_;simp only [au,aw,Option.some.injEq,exists_eq_left',go_sem,hF,hP,hY,hZ];repeat' (first | exact Ok.out | with_reducible refine aB ?_ ?_ | (simp;done))))
      refine ct 1 1 ?_ ?_ (oD (rest,k+1,bC++ [y],true,bC.length+1) ⟨my,j2,oW,by simp⟩ (Nat.lt_succ_self _))
      ·(simp only [go_sem,hF,hP,hY,hZ,eQ,eO,az fA,List.map_append,List.map_cons,List.map_nil,encStr];try exact aU)
      ·(simp only [go_sem,hF,hP,hY,hZ,eQ,eO,az fA,List.map_append,List.map_cons,List.map_nil,encStr];try exact aU)
     ·repeat' (first
 | simp only [go_sem,hF,hP,hY,hZ,eO,eQ,nK,nL,hO,e7,c1]
 | (with_reducible refine CU (jW _ _) ?_)
 | (with_reducible refine aC hQ ?_;simp only [au,aw,Option.some.injEq,exists_eq_left',go_sem,hF,hP,hY,hZ];repeat' (first | exact Ok.out | with_reducible refine aB ?_ ?_ | (simp;done))))
      refine ct 1 1 ?_ ?_ (oD (rest,k+1,bC++ [y],true,bC.length+1) ⟨my,j2,oW,by simp⟩ (Nat.lt_succ_self _))
      ·(simp only [go_sem,hF,hP,hY,hZ,eQ,eO,az fA,List.map_append,List.map_cons,List.map_nil,encStr];try exact aU)
      ·(simp only [go_sem,hF,hP,hY,hZ,eQ,eO,az fA,List.map_append,List.map_cons,List.map_nil,encStr];try exact aU)
end Go.Abs

/-! Bsl -/

namespace Go.Abs
def yS:AI→AI
 | .op d g (.cG z k n ps)=> .op d g (.uB z k n ps)
 | a=>a
section
variable {P:Program}
theorem Ky {nt:Nat} {ops:Array Oper} {i:Nat} {o:Oper} {ai:AI} (hi:ops[i]? = some o) (hc:cI P nt ops o=some ai)
 {M:Map} {s:St} {w:World} {tm:Tm} {act:Act} (r:Rel M s w) (lk:Laid M s w) (ht:lM M s tm act.tmps) {K':Tm→St→Prop} (h:iQ P [yS ai] K' tm s)
 {K:Act→World→Prop} {Q:Exit→Act→World→Prop}
 (hK : ∀ d v s1 w1 M1,K' (tm.put ai.dst d) s1→Ext M s w M1 s1 w1→Rel M1 s1 w1→RD M1 s1 d v→K (act.put o.dst v) w1):wpOp P ops Q i K act w:=by
 by_cases hb : ∃ d g z k n ps,ai = .op d g (.cG z k n ps)
 ·obtain⟨d0,g0,z,k,n,ps,rfl⟩:=hb
  obtain⟨g,hg,_,hb⟩:=Ae hc
  rw [sK hb]at hK
  simp only [wpOp,hi]
  have skip:K' (tm.put o.dst (.tuple [])) s→K (act.put o.dst Go.undef) w:=fun hk=>hK _ _ _ _ _ hk (Ext.refl M s w) r .undef
  have hd:=sK hb
  simp only [AI.dst]at hd
  subst hd
  have nU:CO P o=some (.cG z k n ps)∧g0=g:=by
   unfold sa at hb
   split at hb
   ·split at hb
    ·obtain⟨xs,_,h⟩:=map_some hb;cases h
    ·cases hb
   ·obtain⟨xs,_,h⟩:=map_some hb;cases h
   ·split at hb
    ·cases hb
    ·split at hb
     ·rename_i nU
      simp only [Option.some.injEq,AI.op.injEq,true_and]at hb
      obtain⟨h1,h2⟩:=hb
      split at h2
      ·cases h2
      ·cases h2;exact⟨nU,h1.symm⟩
     ·rename_i ao fE nU
      simp only [Option.some.injEq,AI.op.injEq,true_and]at hb
      obtain⟨h1,h2⟩:=hb
      subst h2
      exact⟨nU,h1.symm⟩
     ·cases hb
  obtain⟨nU,rfl⟩:=nU
  simp only [yS,iQ]at h
  rcases jX hg ht h with ⟨hw,hA⟩ | ⟨hw,hB⟩
  ·simp only [hw,if_true]
   left
   split at hA
   ·rename_i d s' qu
    obtain⟨v,w',M',dS,r',hv,e'⟩:=yl nU r ht qu
    unfold Oper.wp
    rcases dS with dS | ⟨dS,rfl⟩
    ·rw [dS,Oper.upon_value]
     exact hK _ _ _ _ _ hA e' r' hv
    ·rw [dS,Oper.upon_skip]
     exact hK _ _ _ _ _ hA e' r' hv
   ·exact hA.elim
  ·simp only [hw]
   exact skip hB
 ·have hs:yS ai=ai:=by
   unfold yS
   split
   ·rename_i d g z k n ps;exact absurd ⟨d,g,z,k,n,ps,rfl⟩ hb
   ·rfl
  rw [hs]at h
  exact wP hi hc r lk ht h hK
theorem XU {a:AI} {r:List AI} {K:Tm→St→Prop} {tm:Tm} {s:St} (h:iQ P (a::r) K tm s):iQ P [a] (iQ P r K) tm s:=by
 cases a <;> exact h
theorem Gg {B:fI} {nt:Nat} {ops:Array Oper} {Q:Exit→Tm→St→Prop} : ∀ (l:List Nat) (ol:List Oper) (is:List AI),l.map (ops[·]?)=ol.map some→qE P nt ops ol=some is→
 ∀ (tm:Tm) (s:St) (act:Act) (w:World),iQ P (is.map yS) (Q .normal) tm s→Holds B nt tm s act w→wpOps P ops (pK B nt Q) l act w
 | [],[],is,_,hc,tm,s,act,w,h,hh=>by cases hc;exact⟨tm,s,h,hh⟩
 | [],_::_,_,hl,_,_,_,_,_,_,_=>by simp at hl
 | _::_,[],_,hl,_,_,_,_,_,_,_=>by simp at hl
 | i::l,o::ol,is,hl,hc,tm,s,act,w,h,hh=>by
  simp only [List.map_cons,List.cons.injEq]at hl
  obtain⟨hi,hl⟩:=hl
  unfold qE at hc
  split at hc
  ·rename_i ai OZ h1 h2
   cases hc
   obtain⟨M,e,r,ht,hn,hd⟩:=hh
   have qk:=xA h1
   have hdd:=sL h1
   rw [List.map_cons]at h
   have key:=Ky (K:=fun act w=>wpOps P ops (pK B nt Q) l act w) (Q:=pK B nt Q) hi h1 r (B.laid.ext e) ht (XU h) (fun d v s1 w1 M1 hk e1 r1 hv=>
    Gg (Q:=Q) l ol OZ hl h2 _ _ _ _ hk (hdd ▸ Holds.put e ht hn hd qk e1 r1 hv))
   simpa only [wpOps,wpOp,hi]using key
  ·cases hc
theorem Sem.swap {B:fI} {nt:Nat} {is:List AI} {Q:Exit→Tm→St→Prop} {tm:Tm} {s:St} (h:gU P B nt (.run (is.map yS)) Q tm s):Sem P B nt (.run is) Q tm s:=by
 intro c hc act w hh
 obtain⟨id,ops,rfl,hi⟩:=k8 hc
 refine wp_region ?_
 exact Gg _ _ is (z6 ops) hi tm s act w (n8 h) hh
end
end Go.Abs

/-! Tc4 -/

namespace Go.Abs
set_option maxRecDepth 8000
open Go.Proofs
theorem N4 {l:List aF} (h:l.Nodup):lZ l=gL l:=by
 refine xh ?_ (kU l).1 fun x=> ?_
 ·have h1:=Gc l
  have h2:(lZ l).Nodup:=(List.mergeSort_perm l _).nodup_iff.2 h
  refine(List.pairwise_and_iff.2 ⟨h1,h2⟩).imp fun {a b} AB=> ?_
  rcases x6 a b with e | e | e
  ·exact e
  ·exact absurd e AB.2
  ·rw [AB.1]at e;cases e
 ·rw [(kU l).2];exact(List.mergeSort_perm l _).mem_iff
theorem A2 {p:Pg} (jb:(p.scope.1==0)=true) : ∀ (n i:Nat) (out:List aF),Good p out→Good p (qg p n i out)
 | 0,i,out,h=>h
 | n+1,i,out,h=>by
  simp only [qg]
  split
  ·rename_i x hx
   obtain⟨g,hg⟩:=h.2 x (List.mem_of_getElem? hx)
   refine A2 jb n _ _ (h.add fun y m=> ?_)
   unfold x7 at m
   rw [hg]at m
   exact xl jb (mh hg).1 m
  ·exact h
theorem CC {p:Pg} {name:aF} {f:Pc} (hf:p.find name=some f):Good p [name]:=
 ⟨by simp,fun x m=>by
  have:x=name:=by simpa using m
  subst this;exact⟨f,hf⟩⟩
theorem XV {p:Pg} (h:p.iC) (jb:(p.scope.1==0)=true) {name:aF} {f:Pc} (hf:p.find name=some f) (s:St):aE Tryz.prog wW [.dU (iB p) 0, .str name] s (.slice .shared 1 ((gL (p.work name)).map encStr)) s:=by
 refine aE.pure ?_ (by simp [D.bR,D.ok,yI]) (by simp only [D.ok,Tag.ok,dJ];rfl) s
 obtain⟨oP,nq,pG⟩:=h.procs
 obtain⟨R,hR⟩ : ∃ R,p.work name=R:=⟨_,rfl⟩
 have hgR:Good p R:=hR ▸ A2 jb _ _ _ (CC hf)
 rw [hR, ← N4 hgR.1]
 unfold Pg.work at hR
 have hg0:Good p [name]:=CC hf
 have Wp:=hgR.len
 unfold S0
 obtain⟨fn,we,wu⟩:=G1
 refine aE.intro ⟨fn,we,wu⟩ (Nat.le_of_ble_eq_true rfl) fun B hB=> ?_
 generalize hQ:iS (⟨[],[]⟩:St).aG.length (⟨[],[]⟩:St).aH.length _ _ (⟨[],[]⟩:St)=Q
 have⟨hF,hP,hY,hZ⟩:=bq
 refine Sem.kJ ?_
 repeat' (first
 | simp only [go_sem,hF,hP,hY,hZ]
 | (with_reducible first | refine bK fun hc=> ?_ | refine bL fun hc=> ?_ | refine bM (fun hc=> ?_) fun hc=> ?_) <;> (try simp only [hc,bs, ↓reduceIte]at h) <;> try simp only [hc]
 | (with_reducible refine aC hQ ?_;exact nX)
 | (cases h;done))
 refine Sem.seq (Sem.swap ?_)
 simp only [List.map_cons,List.map_nil,yS]
 repeat' (first
 | simp only [go_sem,hF,hP,hY,hZ]
 | (with_reducible first | refine bK fun hc=> ?_ | refine bL fun hc=> ?_ | refine bM (fun hc=> ?_) fun hc=> ?_) <;> (try simp only [hc,bs, ↓reduceIte]at h) <;> try simp only [hc]
 | (with_reducible refine aC hQ ?_;exact nX)
 | (cases h;done))
 refine Sem.kJ ?_
 repeat' (first
 | simp only [go_sem,hF,hP,hY,hZ]
 | (with_reducible first | refine bK fun hc=> ?_ | refine bL fun hc=> ?_ | refine bM (fun hc=> ?_) fun hc=> ?_) <;> (try simp only [hc,bs, ↓reduceIte]at h) <;> try simp only [hc]
 | (with_reducible refine aC hQ ?_;exact nX)
 | (cases h;done))
 refine cd 0 1 (a8.ind (ι:=Nat×Nat×List aF×Nat) (fun i=>qg p i.1 i.2.1 i.2.2.1=R∧Good p i.2.2.1∧i.1+i.2.1=p.procs.length+1∧i.2.2.2=i.2.2.1.length) (fun i=>i.1)
  (fun i=> [(0, .dU (iB p) 0),(5, .slice (.tok 0) 1 (i.2.2.1.map encStr)),(6, .int .i64 (i.2.1:Int))]) (fun i=>⟨[],[some i.2.2.2]⟩) ?_ (p.procs.length+1,0,[name],1) ⟨hR,hg0,rfl,rfl⟩)
 rintro⟨n,i,out,no⟩ ⟨h1,h2,h3,h4⟩ IH
 dsimp only at h1 h2 h3 h4
 subst h4
 have oM:=h2.len
 cases hx:out[i]? with
 | none=>
  have hF:decide ((i:Int)<(out.length:Int))=false:=by have:=List.getElem?_eq_none_iff.1 hx;simp;omega
  have:R=out:=by
   cases n with
   | zero=>simpa [qg]using h1.symm
   | succ n=>simp only [qg,hx]at h1;exact h1.symm
  subst this
  repeat' (first
 | simp only [go_sem,hF,hP,hY,hZ]
 | (with_reducible first | refine bK fun hc=> ?_ | refine bL fun hc=> ?_ | refine bM (fun hc=> ?_) fun hc=> ?_) <;> (try simp only [hc,bs, ↓reduceIte]at h) <;> try simp only [hc]
 | (with_reducible refine aC hQ ?_;exact nX)
 | (cases h;done))
  refine Sem.seq (Sem.sort (k:=5) (t:=0) (l:=R) hB (by decide) (by decide) (by decide) rfl rfl (by omega) ?_)
  refine iA (ac:=ZW) (Q:=Q) (tm:= [(5, .slice (.tok 0) 1 ((lZ R).map encStr))]) (s:=⟨[],[some R.length]⟩) ?_
  repeat' (first
 | simp only [go_sem,hF,hP,hY,hZ]
 | (with_reducible first | refine bK fun hc=> ?_ | refine bL fun hc=> ?_ | refine bM (fun hc=> ?_) fun hc=> ?_) <;> (try simp only [hc,bs, ↓reduceIte]at h) <;> try simp only [hc]
 | (with_reducible refine aC hQ ?_;exact nX)
 | (cases h;done))
 | some x=>
  have pF:=(List.getElem?_eq_some_iff.1 hx).1
  have hF:decide ((i:Int)<(out.length:Int))=true:=by simp;omega
  have qI:i<4611686018427387904:=by omega
  cases n with
  | zero=>omega
  | succ n=>
  simp only [qg,hx]at h1
  obtain⟨g,vu⟩:=h2.2 x (List.mem_of_getElem? hx)
  have DR:=(mh vu).1
  have BY:=fun s=>XT h vu s
  have hcn:x7 p x=g.calls:=by unfold x7;rw [vu]
  rw [hcn]at h1
  have Jm : ∀ y∈g.calls,∃ f,p.find y=some f:=fun y m=>xl jb DR m
  have apf:g.calls.length≤p.procs.length:=Good.len ⟨ri (kU _).1,Jm⟩
  obtain⟨W,hW⟩ : ∃ W,rj out g.calls=W:=⟨_,rfl⟩
  rw [hW]at h1
  repeat' (first
 | simp only [go_sem,hF,hP,hY,hZ,hx]
 | (with_reducible refine CU (BY _) ?_)
 | (with_reducible first | refine bK fun hc=> ?_ | refine bL fun hc=> ?_ | refine bM (fun hc=> ?_) fun hc=> ?_) <;> (try simp only [hc,bs, ↓reduceIte]at h) <;> try simp only [hc]
 | (with_reducible refine aC hQ ?_;(try cases h);simp only [au,aw,bu,bw,go_sem,hF,hP,hY,hZ,hx];try exact Ai)
 | (cases h;done))
  refine cd 0 1 (a8.ind (ι:=List aF×Nat×List aF×Nat) (fun j=>g.calls.drop j.2.1=j.1∧rj j.2.2.1 j.1=W∧Good p j.2.2.1∧j.2.2.2=j.2.2.1.length) (fun j=>j.1.length)
   (fun j=> [(0, .dU (iB p) 0),(5, .slice (.tok 0) 1 (j.2.2.1.map encStr)),(6, .int .i64 (i:Int)),(22, .slice .shared 1 (g.calls.map encStr)),(23, .int .i64 (g.calls.length:Int)),(24, .int .i64 (j.2.1:Int))]) (fun j=>⟨[],[some j.2.2.2]⟩) ?_ (g.calls,0,out,out.length) ⟨rfl,hW,h2,rfl⟩)
  clear hW
  rintro⟨rest,k,bC,n'⟩ ⟨j1,j2,j3,j4⟩ oD
  dsimp only at j1 j2 j3 j4
  subst j4
  have aaW:=j3.len
  cases rest with
  | nil=>
   have A1:=drop_nil j1
   simp only [rj]at j2
   subst j2
   repeat' (first
 | simp only [go_sem,hF,hP,hY,hZ,A1]
 | (with_reducible first | refine bK fun hc=> ?_ | refine bL fun hc=> ?_ | refine bM (fun hc=> ?_) fun hc=> ?_) <;> (try simp only [hc,bs, ↓reduceIte]at h) <;> try simp only [hc]
 | (with_reducible refine aC hQ ?_;(try cases h);simp only [au,aw,bu,bw,go_sem,hF,hP,hY,hZ,A1];try exact Ai)
 | (cases h;done))
   refine ct 0 1 ?_ ?_ (IH (n,i+1,bC,bC.length) ⟨h1,j3,by dsimp only;omega,rfl⟩ (Nat.lt_succ_self _))
   ·(simp only [go_sem,hF,hP,hY,hZ,az qI];try exact aU)
   ·(simp only [go_sem,hF,hP,hY,hZ,az qI];try exact aU)
  | cons y rest=>
   obtain⟨e7,my,hO,DK⟩:=drop_cons j1
   have fA:k<4611686018427387904:=by omega
   have hY:(bC.length+1)*17≤bc:=by unfold bc;omega
   have jW:=fun g s=>jq (l:=bC) (by omega) y g s
   have hy:=Jm y (List.mem_of_getElem? e7)
   have oW:=j3.Wq hy
   simp only [rj]at j2
   rcases Bool.eq_false_or_eq_true (dL bC y)with c1 | c1
   ·simp only [lW,c1,if_true]at j2
    repeat' (first
 | simp only [go_sem,hF,hP,hY,hZ,hO,e7,c1]
 | (with_reducible refine CU (jW _ _) ?_)
 | (with_reducible first | refine bK fun hc=> ?_ | refine bL fun hc=> ?_ | refine bM (fun hc=> ?_) fun hc=> ?_) <;> (try simp only [hc,bs, ↓reduceIte]at h) <;> try simp only [hc]
 | (with_reducible refine aC hQ ?_;(try cases h);simp only [au,aw,bu,bw,go_sem,hF,hP,hY,hZ,hO,e7,c1];try exact Ai)
 | (cases h;done))
    refine ct 0 1 ?_ ?_ (oD (rest,k+1,bC,bC.length) ⟨my,j2,j3,rfl⟩ (Nat.lt_succ_self _))
    ·(simp only [go_sem,hF,hP,hY,hZ,az fA];try exact aU)
    ·(simp only [go_sem,hF,hP,hY,hZ,az fA];try exact aU)
   ·simp only [lW,c1,Bool.false_eq_true,if_false]at j2 oW
    repeat' (first
 | simp only [go_sem,hF,hP,hY,hZ,hO,e7,c1]
 | (with_reducible refine CU (jW _ _) ?_)
 | (with_reducible first | refine bK fun hc=> ?_ | refine bL fun hc=> ?_ | refine bM (fun hc=> ?_) fun hc=> ?_) <;> (try simp only [hc,bs, ↓reduceIte]at h) <;> try simp only [hc]
 | (with_reducible refine aC hQ ?_;(try cases h);simp only [au,aw,bu,bw,go_sem,hF,hP,hY,hZ,hO,e7,c1];try exact Ai)
 | (cases h;done))
    refine ct 0 1 ?_ ?_ (oD (rest,k+1,bC++ [y],bC.length+1) ⟨my,j2,oW,by simp⟩ (Nat.lt_succ_self _))
    ·(simp only [go_sem,hF,hP,hY,hZ,az fA,List.map_append,List.map_cons,List.map_nil,encStr];try exact aU)
    ·(simp only [go_sem,hF,hP,hY,hZ,az fA,List.map_append,List.map_cons,List.map_nil,encStr];try exact aU)
end Go.Abs

/-! Tc5 -/

namespace Go.Abs
set_option maxRecDepth 8000
open Go.Proofs
theorem Jn (name:aF) : ∀ l:List Pc,l.any (fun f=>f.name==name)=(jr name l).isSome
 | []=>rfl
 | f::l=>by
  simp only [List.any_cons,jr]
  cases e:(f.name==name)
  ·simp [Jn name l]
  ·simp
theorem Um (name:aF) (f:Pc):aE Tryz.prog oz ([.agg (cb f)]++ [.ptr 0 0]) ⟨[[.str name]],[]⟩ (.bool (f.name==name)) ⟨[[.str name]],[]⟩:=by
 show aE Tryz.prog oz [.agg (cb f), .ptr 0 0] _ _ _
 refine aE.go BE rfl fun B Q hB hQ=> ?_
 have⟨hF,hP,hY,hZ⟩:=bq
 repeat' (first
 | simp only [go_sem,hF,hP,hY,hZ]
 | (with_reducible refine aC hQ ?_;simp only [au,aw,Option.some.injEq,exists_eq_left',go_sem,hF,hP,hY,hZ];repeat' (first | exact Ok.out | with_reducible refine aB ?_ ?_ | (simp;done))))
def Pg.xm (p:Pg) (name:aF):Option Pc:=if p.scope.1==0 then p.find name else none
theorem Un {p:Pg} (h:p.iC) (name:aF) (s:St):aE Tryz.prog tj [.agg (bH p), .str name] s (.bool (p.xm name).isSome) s:=by
 refine aE.pure ?_ (by simp [D.bR,D.ok,fX]) rfl s
 obtain⟨oP,nq,pG⟩:=h.procs
 have tC:=fun s=>vr h s
 have hi:=fun {s:St} {o:Nat} (ho:s.aG[o]? = some [.str name])=>AA (zE (l:=p.procs) (f:=oz) (row:= [.str name]) (b:=fun f:Pc=>f.name==name) (by omega) rfl (by with_unfolding_all rfl) (fun x _=>Um name x)) rfl (Hg _) rfl ho
 have ik:=fun {s:St} {o:Nat} (ho:s.aG[o]? = some [.str name])=>(show aE Tryz.prog gK [.slice .shared 5 (p.procs.map cb), .gP 164 [.ptr o 0]] s (.bool (p.procs.any fun f:Pc=>f.name==name)) s from hi ho)
 simp only [Jn]at ik
 unfold Pg.xm Pg.find
 unfold S0
 rcases Bool.eq_false_or_eq_true (p.scope.1==0)with b1 | b1
 ·simp only [b1,if_true]
  refine aE.go v8 rfl fun B Q hB hQ=> ?_
  have⟨hF,hP,hY,hZ⟩:=bq
  repeat' (first
 | simp only [go_sem,hF,hP,hY,hZ,b1]
 | (with_reducible refine CU (tC _) ?_)
 | (with_reducible refine CU (ik (by with_unfolding_all rfl)) ?_)
 | (with_reducible refine aC hQ ?_;simp only [au,aw,Option.some.injEq,exists_eq_left',go_sem,hF,hP,hY,hZ];repeat' (first | exact Ok.out | with_reducible refine aB ?_ ?_ | (simp;done))))
 ·simp only [b1,Bool.false_eq_true,if_false,Option.isSome_none]
  refine aE.go v8 rfl fun B Q hB hQ=> ?_
  have⟨hF,hP,hY,hZ⟩:=bq
  repeat' (first
 | simp only [go_sem,hF,hP,hY,hZ,b1]
 | (with_reducible refine CU (tC _) ?_)
 | (with_reducible refine CU (ik (by with_unfolding_all rfl)) ?_)
 | (with_reducible refine aC hQ ?_;simp only [au,aw,Option.some.injEq,exists_eq_left',go_sem,hF,hP,hY,hZ];repeat' (first | exact Ok.out | with_reducible refine aB ?_ ?_ | (simp;done))))
def Pg.avQ (p:Pg) (name:aF):List aF:=match p.xm name with | some f=>f.calls | none=> []
def Pg.apg (p:Pg) (name:aF):List aF:=match p.xm name with | some _=>gL (p.work name) | none=> []
theorem Gh {p:Pg} {name:aF} {f:Pc} (h:p.xm name=some f):(p.scope.1==0)=true∧p.find name=some f:=by
 unfold Pg.xm at h
 split at h
 ·exact⟨by assumption,h⟩
 ·cases h
end Go.Abs

/-! Tc6 -/

namespace Go.Abs
set_option maxRecDepth 8000
open Go.Proofs
def oF (p:Pg) (out:List aF):List aF→List aF
 | []=>out
 | v::l=>oF p (if dL p.globals v then out++ [v]else out) l
def oG (p:Pg) (out:List aF):List Sm→List aF
 | []=>out
 | v::l=>oG p (oF p out v.said) l
def qa (p:Pg) (n:aF):List Sm:=match p.find n with | some f=>Sm.dN f.body | none=> []
def qh (p:Pg) (out:List aF):List aF→List aF
 | []=>out
 | n::l=>qh p (oG p out (qa p n)) l
theorem rX (p:Pg) : ∀ (l out:List aF),out.length≤(oF p out l).length∧(oF p out l).length≤out.length+l.length
 | [],out=>⟨Nat.le_refl _,Nat.le_refl _⟩
 | v::l,out=>by
  simp only [oF]
  have h:=rX p l (if dL p.globals v then out++ [v]else out)
  have h2:out.length≤(if dL p.globals v then out++ [v]else out).length∧(if dL p.globals v then out++ [v]else out).length≤out.length+1:=by split <;> simp
  simp only [List.length_cons]
  omega
def oH:List Sm→Nat
 | []=>0
 | v::l=>v.said.length+oH l
theorem A3 : ∀ a b:List Sm,oH (a++b)=oH a+oH b
 | [],b=>by simp [oH]
 | v::a,b=>by simp only [List.cons_append,oH,A3 a b];omega
theorem XW (v:Sm):v.said.length≤1+v.x.size+2*Ar.aS v.args:=by
 have : ∀ (l:List Ar) (out:List aF),(Ar.said out l).length≤out.length+2*Ar.aS l:=by
  intro l
  induction l with
  | nil=>intro out;simp [Ar.said]
  | cons a l ih=>
   intro out
   simp only [Ar.said,Ar.aS]
   refine Nat.le_trans (ih _) ?_
   have:=gx a.x
   have:1≤a.x.size:=by obtain⟨_,_,_,_⟩:=a.x;simp [Ex.size]
   simp only [List.length_append]
   split <;> simp <;> omega
 have h1:=this v.args (v.rf++v.x.names)
 have h2:=gx v.x
 have h4:v.rf.length≤1:=by unfold Sm.rf;split <;> simp
 simp only [List.length_append]at h1
 unfold Sm.said
 omega
mutual
theorem QZ : ∀ s:Sm,oH s.pre≤2*s.size
 | ⟨id,kind,labels,name,proc,x,has,args,aZ,aP⟩=>by
  simp only [Sm.pre,oH,A3,Sm.size]
  have h1:=XW ⟨id,kind,labels,name,proc,x,has,args,aZ,aP⟩
  have h2:=uq aZ
  have h3:=uq aP
  dsimp only at h1
  omega
theorem uq : ∀ l:List Sm,oH (Sm.dN l)≤2*Sm.aS l
 | []=>by simp [Sm.dN,oH,Sm.aS]
 | s::l=>by
  simp only [Sm.dN,A3,Sm.aS]
  have:=QZ s;have:=uq l;omega
end
theorem rY (p:Pg) : ∀ (l:List Sm) (out:List aF),out.length≤(oG p out l).length∧(oG p out l).length≤out.length+oH l
 | [],out=>⟨Nat.le_refl _,Nat.le_refl _⟩
 | v::l,out=>by
  simp only [oG,oH]
  have h:=rY p l (oF p out v.said)
  have h2:=rX p v.said out
  omega
theorem rZ {p:Pg} (h:p.iC) : ∀ (l out:List aF),out.length≤(qh p out l).length∧(qh p out l).length≤out.length+l.length*1800000
 | [],out=>⟨Nat.le_refl _,by simp [qh]⟩
 | n::l,out=>by
  simp only [qh]
  have h1:=rZ h l (oG p out (qa p n))
  have h2:=rY p (qa p n) out
  have h3:oH (qa p n)≤1800000:=by
   unfold qa
   split
   ·rename_i f hf
    have:=uq f.body
    have h4:=Pc.bV (mh hf).1
    have h5:=h.procs.2.1
    simp only [Pc.size]at h4
    omega
   ·simp [oH]
  simp only [List.length_cons]
  omega
theorem Gi {p:Pg} (h:p.may=true):p.procs.length≤16:=by
 unfold Pg.may at h
 split at h
 ·cases h
 ·rename_i c
  simp only [Bool.or_eq_true,decide_eq_true_eq,not_or,Int.not_lt,gt_iff_lt]at c
  have:=c.1.2
  omega
def Pg.mj (p:Pg) (name:aF):List aF:=qh p [] (gL (p.work name))
def Pg.n6 (p:Pg) (name:aF):List aF:=match p.xm name with | some _=>gL (p.mj name) | none=> []
theorem CD {p:Pg} (jb:(p.scope.1==0)=true) {name:aF} {f:Pc} (hf:p.find name=some f):Good p (gL (p.work name)):=by
 have h:=A2 jb (p.procs.length+1) 0 [name] (CC hf)
 refine⟨ri (kU _).1,fun x m=>h.2 x ?_⟩
 exact((kU _).2 x).1 m
theorem N5 {p:Pg} (h:p.iC) (jb:(p.scope.1==0)=true) {name:aF} {f:Pc} (hf:p.find name=some f) (s:St):aE Tryz.prog rO [.agg (bH p), .str name] s (.slice .shared 1 ((gL (p.mj name)).map encStr)) s:=by
 refine aE.pure ?_ (by simp [D.bR,D.ok,fX]) (by simp only [D.ok,Tag.ok,dJ];rfl) s
 have hb:=nr jb
 obtain⟨oP,nq,pG⟩:=h.procs
 have hN:=CD jb hf
 obtain⟨N,Jo⟩ : ∃ N,gL (p.work name)=N:=⟨_,rfl⟩
 rw [Jo]at hN
 have hNl:=hN.len
 obtain⟨R,hR⟩ : ∃ R,p.mj name=R:=⟨_,rfl⟩
 rw [hR]
 unfold Pg.mj at hR
 rw [Jo]at hR
 have Wp:R.length≤28800000:=by
  have:=(rZ h N []).2
  rw [hR]at this
  have h4:=Gi (nr jb)
  have h3:N.length*1800000≤16*1800000:=Nat.mul_le_mul_right _ (by omega)
  simp only [List.length_nil]at this
  omega
 have BY:=fun s=>QY h jb hf s
 simp only [Jo]at BY
 unfold S0
 refine aE.go Ct rfl fun B Q hB hQ=> ?_
 have⟨hF,hP,hY,hZ⟩:=bq
 repeat' (first
 | simp only [go_sem,hF,hP,hY,hZ]
 | (with_reducible refine CU (BY _) ?_)
 | (with_reducible refine aC hQ ?_;simp only [au,aw,Option.some.injEq,exists_eq_left',go_sem,hF,hP,hY,hZ];repeat' (first | exact Ok.out | with_reducible refine aB ?_ ?_ | (simp;done))))
 refine a8.jB 5 1 rfl ?_
 simp only [go_sem,hF,hP,hY,hZ]
 refine cd 1 1 (a8.ind (ι:=List aF×Nat×List aF×Nat) (fun i=>N.drop i.2.1=i.1∧qh p i.2.2.1 i.1=R∧i.2.2.1.length≤R.length∧i.2.2.2=i.2.2.1.length) (fun i=>i.1.length)
  (fun i=> [(2, .ptr 0 0),(5, .slice (.tok 0) 1 (i.2.2.1.map encStr)),(16, .slice .shared 1 (N.map encStr)),(17, .int .i64 (N.length:Int)),(18, .int .i64 (i.2.1:Int))]) (fun i=>⟨[bH p],[some i.2.2.2]⟩) ?_ (N,0,[],0) ⟨rfl,hR,Nat.zero_le _,rfl⟩)
 rintro⟨rest,k,out,no⟩ ⟨h1,h2,h3,h4⟩ IH
 dsimp only at h1 h2 h3 h4
 subst h4
 cases rest with
 | nil=>
  have hF:=drop_nil h1
  simp only [qh]at h2
  subst h2
  have QU:=fun g s=>CA (l:=out) (by omega) g s
  repeat' (first
 | simp only [go_sem,hF,hP,hY,hZ]
 | (with_reducible refine CU (QU _ _) ?_)
 | (with_reducible refine aC hQ ?_;simp only [au,aw,Option.some.injEq,exists_eq_left',go_sem,hF,hP,hY,hZ];repeat' (first | exact Ok.out | with_reducible refine aB ?_ ?_ | (simp;done))))
 | cons x rest=>
  obtain⟨hP,g2,hF,g4⟩:=drop_cons h1
  have bl:k<4611686018427387904:=by omega
  obtain⟨g,vu⟩:=hN.2 x (List.mem_of_getElem? hP)
  have DR:=(mh vu).1
  have hbd:qa p x=Sm.dN g.body:=by unfold qa;rw [vu]
  simp only [qh,hbd]at h2
  have ra:=fun s=>Bp (p:=p) (by omega) x s
  simp only [vu,jv,Option.getD_some,Option.isSome_some]at ra
  have uH:Sm.aS g.body<4611686018427387000:=by have:=Pc.bV DR;simp only [Pc.size]at this;omega
  have jK:=fun s=>x3 (f:=g) uH s
  obtain⟨it,hie⟩ : ∃ it,g.flat=it:=⟨_,rfl⟩
  have pb:=(pf hb).1 g DR
  have Fb:g.flat.length≤201:=g.qn
  rw [hie]at pb Fb
  simp only [hie]at jK
  rw [← pb]at h2
  repeat' (first
 | simp only [go_sem,hF,hP,hY,hZ,hP]
 | (with_reducible refine CU (ra _) ?_)
 | (with_reducible refine CU (jK _) ?_)
 | (with_reducible refine aC hQ ?_;simp only [au,aw,Option.some.injEq,exists_eq_left',go_sem,hF,hP,hY,hZ];repeat' (first | exact Ok.out | with_reducible refine aB ?_ ?_ | (simp;done))))
  obtain⟨W,hW⟩ : ∃ W,oG p out (it.map It.s)=W:=⟨_,rfl⟩
  rw [hW]at h2
  have hWR:W.length≤R.length:=by have:=(rZ h rest W).1;rw [h2]at this;exact this
  have Jc:out.length≤W.length:=by have:=(rY p (it.map It.s) out).1;rw [hW]at this;exact this
  refine cd 1 1 (a8.ind (ι:=List It×Nat×List aF×Nat) (fun i=>it.drop i.2.1=i.1∧oG p i.2.2.1 (i.1.map It.s)=W∧i.2.2.1.length≤W.length∧i.2.2.2=i.2.2.1.length) (fun i=>i.1.length)
   (fun i=> [(2, .ptr 0 0),(5, .slice (.tok 0) 1 (i.2.2.1.map encStr)),(16, .slice .shared 1 (N.map encStr)),(17, .int .i64 (N.length:Int)),(18, .int .i64 (k:Int)),(29, .slice .shared 16 (it.map ej)),(30, .int .i64 (it.length:Int)),(31, .int .i64 (i.2.1:Int))]) (fun i=>⟨[bH p],[some i.2.2.2]⟩) ?_ (it,0,out,out.length) ⟨rfl,hW,Jc,rfl⟩)
  rintro⟨jI,k2,qp,no⟩ ⟨j1,j2,j3,j4⟩ p7
  dsimp only at j1 j2 j3 j4
  subst j4
  cases jI with
  | nil=>
   have Uo:=drop_nil j1
   simp only [List.map_nil,oG]at j2
   subst j2
   repeat' (first
 | simp only [go_sem,hF,hP,hY,hZ,Uo]
 | (with_reducible refine aC hQ ?_;simp only [au,aw,Option.some.injEq,exists_eq_left',go_sem,hF,hP,hY,hZ];repeat' (first | exact Ok.out | with_reducible refine aB ?_ ?_ | (simp;done))))
   refine ct 1 1 ?_ ?_ (IH (rest,k+1,qp,qp.length) ⟨g2,h2,hWR,rfl⟩ (Nat.lt_succ_self _))
   ·(simp only [go_sem,hF,hP,hY,hZ,az bl];try exact aU)
   ·(simp only [go_sem,hF,hP,hY,hZ,az bl];try exact aU)
  | cons y jI=>
   obtain⟨e7,my,hO,DK⟩:=drop_cons j1
   have fA:k2<4611686018427387904:=by omega
   have hym:y.s∈Sm.dN g.body:=by rw [← pb];exact List.mem_map_of_mem (List.mem_of_getElem? e7)
   have BK:=h.said DR _ hym
   have FV:=fun s=>BW BK s
   have AU:=yO _ BK
   simp only [List.map_cons,oG]at j2
   repeat' (first
 | simp only [go_sem,hF,hP,hY,hZ,hO,e7]
 | (with_reducible refine CU (FV _) ?_)
 | (with_reducible refine aC hQ ?_;simp only [au,aw,Option.some.injEq,exists_eq_left',go_sem,hF,hP,hY,hZ];repeat' (first | exact Ok.out | with_reducible refine aB ?_ ?_ | (simp;done))))
   obtain⟨V,hV⟩ : ∃ V,oF p qp y.s.said=V:=⟨_,rfl⟩
   rw [hV]at j2
   have hVW:V.length≤W.length:=by have:=(rY p (jI.map It.s) V).1;rw [j2]at this;exact this
   have hoV:qp.length≤V.length:=by have:=(rX p y.s.said qp).1;rw [hV]at this;exact this
   refine cd 1 1 (a8.ind (ι:=List aF×Nat×List aF×Nat) (fun i=>y.s.said.drop i.2.1=i.1∧oF p i.2.2.1 i.1=V∧i.2.2.1.length≤V.length∧i.2.2.2=i.2.2.1.length) (fun i=>i.1.length)
    (fun i=> [(2, .ptr 0 0),(5, .slice (.tok 0) 1 (i.2.2.1.map encStr)),(16, .slice .shared 1 (N.map encStr)),(17, .int .i64 (N.length:Int)),(18, .int .i64 (k:Int)),(29, .slice .shared 16 (it.map ej)),(30, .int .i64 (it.length:Int)),(31, .int .i64 (k2:Int)),(37, .slice .shared 1 (y.s.said.map encStr)),(38, .int .i64 (y.s.said.length:Int)),(39, .int .i64 (i.2.1:Int))]) (fun i=>⟨[bH p],[some i.2.2.2]⟩) ?_ (y.s.said,0,qp,qp.length) ⟨rfl,hV,hoV,rfl⟩)
   rintro⟨rk,k3,nM,no⟩ ⟨l1,l2,l3,l4⟩ x8
   dsimp only at l1 l2 l3 l4
   subst l4
   cases rk with
   | nil=>
    have Uq:=drop_nil l1
    simp only [oF]at l2
    subst l2
    repeat' (first
 | simp only [go_sem,hF,hP,hY,hZ,Uq]
 | (with_reducible refine aC hQ ?_;simp only [au,aw,Option.some.injEq,exists_eq_left',go_sem,hF,hP,hY,hZ];repeat' (first | exact Ok.out | with_reducible refine aB ?_ ?_ | (simp;done))))
    refine ct 1 1 ?_ ?_ (p7 (jI,k2+1,nM,nM.length) ⟨my,j2,hVW,rfl⟩ (Nat.lt_succ_self _))
    ·(simp only [go_sem,hF,hP,hY,hZ,az fA];try exact aU)
    ·(simp only [go_sem,hF,hP,hY,hZ,az fA];try exact aU)
   | cons z rk=>
    obtain⟨AV,Jd,F8,lg4⟩:=drop_cons l1
    have zv:k3<4611686018427387904:=by omega
    have jW:=fun g s=>xf (l:=p.globals) (by omega) z g s
    simp only [oF]at l2
    rcases Bool.eq_false_or_eq_true (dL p.globals z)with c1 | c1
    ·simp only [c1,if_true]at l2
     have hY:(nM.length+1)*17≤bc:=by unfold bc;omega
     have hoo:(nM++ [z]).length≤V.length:=by have:=(rX p rk (nM++ [z])).1;rw [l2]at this;exact this
     repeat' (first
 | simp only [go_sem,hF,hP,hY,hZ,F8,AV,c1]
 | (with_reducible refine CU (jW _ _) ?_)
 | (with_reducible refine aC hQ ?_;simp only [au,aw,Option.some.injEq,exists_eq_left',go_sem,hF,hP,hY,hZ];repeat' (first | exact Ok.out | with_reducible refine aB ?_ ?_ | (simp;done))))
     refine ct 1 1 ?_ ?_ (x8 (rk,k3+1,nM++ [z],nM.length+1) ⟨Jd,l2,hoo,by simp⟩ (Nat.lt_succ_self _))
     ·(simp only [go_sem,hF,hP,hY,hZ,az zv,List.map_append,List.map_cons,List.map_nil,encStr];try exact aU)
     ·(simp only [go_sem,hF,hP,hY,hZ,az zv,List.map_append,List.map_cons,List.map_nil,encStr];try exact aU)
    ·simp only [c1,Bool.false_eq_true,if_false]at l2
     repeat' (first
 | simp only [go_sem,hF,hP,hY,hZ,F8,AV,c1]
 | (with_reducible refine CU (jW _ _) ?_)
 | (with_reducible refine aC hQ ?_;simp only [au,aw,Option.some.injEq,exists_eq_left',go_sem,hF,hP,hY,hZ];repeat' (first | exact Ok.out | with_reducible refine aB ?_ ?_ | (simp;done))))
     refine ct 1 1 ?_ ?_ (x8 (rk,k3+1,nM,nM.length) ⟨Jd,l2,l3,rfl⟩ (Nat.lt_succ_self _))
     ·(simp only [go_sem,hF,hP,hY,hZ,az zv];try exact aU)
     ·(simp only [go_sem,hF,hP,hY,hZ,az zv];try exact aU)
theorem Q1 {p:Pg} (h:p.iC) (name:aF) (s:St):aE Tryz.prog qR [.agg (bH p), .str name] s (.slice .shared 1 ((p.n6 name).map encStr)) s:=by
 refine aE.pure ?_ (by simp [D.bR,D.ok,fX]) (by simp only [D.ok,Tag.ok,dJ];rfl) s
 have hk:=fun s=>Un h name s
 have ey:=fun s=>Dy (p:=p) (by have:=h.procs;omega) s
 unfold Pg.n6
 unfold S0
 cases Ur:p.xm name with
 | none=>
  simp only [Ur,Option.isSome_none]at hk
  simp only [List.map_nil]
  refine aE.go tL rfl fun B Q hB hQ=> ?_
  have⟨hF,hP,hY,hZ⟩:=bq
  repeat' (first
 | simp only [go_sem,hF,hP,hY,hZ]
 | (with_reducible refine CU (hk _) ?_)
 | (with_reducible refine aC hQ ?_;simp only [au,aw,Option.some.injEq,exists_eq_left',go_sem,hF,hP,hY,hZ];repeat' (first | exact Ok.out | with_reducible refine aB ?_ ?_ | (simp;done))))
 | some f=>
 obtain⟨jb,hf⟩:=Gh Ur
 simp only [Ur,Option.isSome_some]at hk
 dsimp only
 obtain⟨oP,nq,pG⟩:=h.procs
 have hN:=CD jb hf
 obtain⟨N,Jo⟩ : ∃ N,gL (p.work name)=N:=⟨_,rfl⟩
 rw [Jo]at hN
 have hNl:=hN.len
 obtain⟨R,hR⟩ : ∃ R,p.mj name=R:=⟨_,rfl⟩
 rw [hR]
 unfold Pg.mj at hR
 rw [Jo]at hR
 have Wp:R.length≤28800000:=by
  have:=(rZ h N []).2
  rw [hR]at this
  have h4:=Gi (nr jb)
  have h3:N.length*1800000≤16*1800000:=Nat.mul_le_mul_right _ (by omega)
  simp only [List.length_nil]at this
  omega
 have BY:=fun s=>XV h jb hf s
 simp only [Jo]at BY
 obtain⟨fn,we,wu⟩:=tL
 refine aE.intro ⟨fn,we,wu⟩ (Nat.le_of_ble_eq_true rfl) fun B hB=> ?_
 generalize hQ:iS (⟨[],[]⟩:St).aG.length (⟨[],[]⟩:St).aH.length _ _ (⟨[],[]⟩:St)=Q
 have⟨hF,hP,hY,hZ⟩:=bq
 refine Sem.kJ ?_
 repeat' (first
 | simp only [go_sem,hF,hP,hY,hZ]
 | (with_reducible refine aC hQ ?_;simp only [au,aw,Option.some.injEq,exists_eq_left',go_sem,hF,hP,hY,hZ];repeat' (first | exact Ok.out | with_reducible refine aB ?_ ?_ | (simp;done))))
 refine Sem.kJ ?_
 repeat' (first
 | simp only [go_sem,hF,hP,hY,hZ]
 | (with_reducible refine CU (hk _) ?_)
 | (with_reducible refine aC hQ ?_;simp only [au,aw,Option.some.injEq,exists_eq_left',go_sem,hF,hP,hY,hZ];repeat' (first | exact Ok.out | with_reducible refine aB ?_ ?_ | (simp;done))))
 refine Sem.kJ ?_
 repeat' (first
 | simp only [go_sem,hF,hP,hY,hZ]
 | (with_reducible refine CU (ey _) ?_)
 | (with_reducible refine aC hQ ?_;simp only [au,aw,Option.some.injEq,exists_eq_left',go_sem,hF,hP,hY,hZ];repeat' (first | exact Ok.out | with_reducible refine aB ?_ ?_ | (simp;done))))
 refine Sem.kJ ?_
 repeat' (first
 | simp only [go_sem,hF,hP,hY,hZ]
 | (with_reducible refine aC hQ ?_;simp only [au,aw,Option.some.injEq,exists_eq_left',go_sem,hF,hP,hY,hZ];repeat' (first | exact Ok.out | with_reducible refine aB ?_ ?_ | (simp;done))))
 refine Sem.kJ ?_
 repeat' (first
 | simp only [go_sem,hF,hP,hY,hZ]
 | (with_reducible refine CU (BY _) ?_)
 | (with_reducible refine aC hQ ?_;simp only [au,aw,Option.some.injEq,exists_eq_left',go_sem,hF,hP,hY,hZ];repeat' (first | exact Ok.out | with_reducible refine aB ?_ ?_ | (simp;done))))
 refine a8.jB 6 1 rfl ?_
 simp only [go_sem,hF,hP,hY,hZ]
 refine cd 1 1 (a8.ind (ι:=List aF×Nat×List aF×Nat) (fun i=>N.drop i.2.1=i.1∧qh p i.2.2.1 i.1=R∧i.2.2.1.length≤R.length∧i.2.2.2=i.2.2.1.length) (fun i=>i.1.length)
  (fun i=> [(2, .ptr 0 0),(5, .dU (iB p) 0),(6, .slice (.tok 0) 1 (i.2.2.1.map encStr)),(21, .slice .shared 1 (N.map encStr)),(22, .int .i64 (N.length:Int)),(23, .int .i64 (i.2.1:Int))]) (fun i=>⟨[bH p],[some i.2.2.2]⟩) ?_ (N,0,[],0) ⟨rfl,hR,Nat.zero_le _,rfl⟩)
 rintro⟨rest,k,out,no⟩ ⟨h1,h2,h3,h4⟩ IH
 dsimp only at h1 h2 h3 h4
 subst h4
 cases rest with
 | nil=>
  have hF:=drop_nil h1
  simp only [qh]at h2
  subst h2
  have AU:(lZ out).length=out.length:=List.length_mergeSort out
  repeat' (first
 | simp only [go_sem,hF,hP,hY,hZ]
 | (with_reducible refine aC hQ ?_;simp only [au,aw,Option.some.injEq,exists_eq_left',go_sem,hF,hP,hY,hZ];repeat' (first | exact Ok.out | with_reducible refine aB ?_ ?_ | (simp;done))))
  refine Sem.seq (Sem.sort (k:=6) (t:=0) (l:=out) hB (by decide) (by decide) (by decide) rfl rfl (by omega) ?_)
  refine Sem.seq (Sem.compact (k:=6) (t:=0) (l:=lZ out) hB (by decide) rfl (by rw [AU];rfl) (by rw [AU];omega) ?_)
  rw [AZ]
  refine iA (ac:= .ret) (Q:=Q) (tm:= [(59, .slice (.tok 0) 1 ((gL out).map encStr)),(4, .slice (.tok 0) 1 ((gL out).map encStr))]) (s:=⟨[],[some (gL out).length]⟩) ?_
  repeat' (first
 | simp only [go_sem,hF,hP,hY,hZ]
 | (with_reducible refine aC hQ ?_;simp only [au,aw,Option.some.injEq,exists_eq_left',go_sem,hF,hP,hY,hZ];repeat' (first | exact Ok.out | with_reducible refine aB ?_ ?_ | (simp;done))))
 | cons x rest=>
  obtain⟨hP,g2,hF,g4⟩:=drop_cons h1
  have bl:k<4611686018427387904:=by omega
  obtain⟨g,vu⟩:=hN.2 x (List.mem_of_getElem? hP)
  have DR:=(mh vu).1
  have hbd:qa p x=Sm.dN g.body:=by unfold qa;rw [vu]
  simp only [qh,hbd]at h2
  obtain⟨j,hj,tF⟩:=A0 (k:=0) vu
  have tF:p.at x=((j:Nat):Int):=by unfold Pg.at;simpa using tF
  have BX:=fun s=>Qr (p:=p) (by omega) x s
  simp only [tF]at BX
  obtain⟨it,pb,DL⟩:=TF hj (by omega)
  have Fb:it.length≤900000:=by
   have e:=congrArg List.length pb
   obtain⟨a,b,e',_,_,e3,e4⟩:=(qx p).2 j g hj
   have e5:=qy p
   have e6:=congrArg List.length e3
   rw [e4]at e5
   simp only [List.length_map,List.length_append]at e e5 e6
   omega
  rw [← pb]at h2
  repeat' (first
 | simp only [go_sem,hF,hP,hY,hZ,hP]
 | (with_reducible refine CU (BX _) ?_)
 | (with_reducible refine CU (DL _) ?_)
 | (with_reducible refine aC hQ ?_;simp only [au,aw,Option.some.injEq,exists_eq_left',go_sem,hF,hP,hY,hZ];repeat' (first | exact Ok.out | with_reducible refine aB ?_ ?_ | (simp;done))))
  obtain⟨W,hW⟩ : ∃ W,oG p out (it.map Im.s)=W:=⟨_,rfl⟩
  rw [hW]at h2
  have hWR:W.length≤R.length:=by have:=(rZ h rest W).1;rw [h2]at this;exact this
  have Jc:out.length≤W.length:=by have:=(rY p (it.map Im.s) out).1;rw [hW]at this;exact this
  refine cd 1 1 (a8.ind (ι:=List Im×Nat×List aF×Nat) (fun i=>it.drop i.2.1=i.1∧oG p i.2.2.1 (i.1.map Im.s)=W∧i.2.2.1.length≤W.length∧i.2.2.2=i.2.2.1.length) (fun i=>i.1.length)
   (fun i=> [(2, .ptr 0 0),(5, .dU (iB p) 0),(6, .slice (.tok 0) 1 (i.2.2.1.map encStr)),(21, .slice .shared 1 (N.map encStr)),(22, .int .i64 (N.length:Int)),(23, .int .i64 (k:Int)),(31, .slice .shared 17 (it.map fu)),(32, .int .i64 (it.length:Int)),(33, .int .i64 (i.2.1:Int))]) (fun i=>⟨[bH p],[some i.2.2.2]⟩) ?_ (it,0,out,out.length) ⟨rfl,hW,Jc,rfl⟩)
  rintro⟨jI,k2,qp,no⟩ ⟨j1,j2,j3,j4⟩ p7
  dsimp only at j1 j2 j3 j4
  subst j4
  cases jI with
  | nil=>
   have Uo:=drop_nil j1
   simp only [List.map_nil,oG]at j2
   subst j2
   repeat' (first
 | simp only [go_sem,hF,hP,hY,hZ,Uo]
 | (with_reducible refine aC hQ ?_;simp only [au,aw,Option.some.injEq,exists_eq_left',go_sem,hF,hP,hY,hZ];repeat' (first | exact Ok.out | with_reducible refine aB ?_ ?_ | (simp;done))))
   refine ct 1 1 ?_ ?_ (IH (rest,k+1,qp,qp.length) ⟨g2,h2,hWR,rfl⟩ (Nat.lt_succ_self _))
   ·(simp only [go_sem,hF,hP,hY,hZ,az bl];try exact aU)
   ·(simp only [go_sem,hF,hP,hY,hZ,az bl];try exact aU)
  | cons y jI=>
   obtain⟨e7,my,hO,DK⟩:=drop_cons j1
   have fA:k2<4611686018427387904:=by omega
   have hym:y.s∈Sm.dN g.body:=by rw [← pb];exact List.mem_map_of_mem (List.mem_of_getElem? e7)
   have BK:=h.said DR _ hym
   have FV:=fun s=>AJ BK s
   have AU:=yO _ BK
   simp only [List.map_cons,oG]at j2
   repeat' (first
 | simp only [go_sem,hF,hP,hY,hZ,hO,e7]
 | (with_reducible refine CU (FV _) ?_)
 | (with_reducible refine aC hQ ?_;simp only [au,aw,Option.some.injEq,exists_eq_left',go_sem,hF,hP,hY,hZ];repeat' (first | exact Ok.out | with_reducible refine aB ?_ ?_ | (simp;done))))
   obtain⟨V,hV⟩ : ∃ V,oF p qp y.s.said=V:=⟨_,rfl⟩
   rw [hV]at j2
   have hVW:V.length≤W.length:=by have:=(rY p (jI.map Im.s) V).1;rw [j2]at this;exact this
   have hoV:qp.length≤V.length:=by have:=(rX p y.s.said qp).1;rw [hV]at this;exact this
   refine cd 1 1 (a8.ind (ι:=List aF×Nat×List aF×Nat) (fun i=>y.s.said.drop i.2.1=i.1∧oF p i.2.2.1 i.1=V∧i.2.2.1.length≤V.length∧i.2.2.2=i.2.2.1.length) (fun i=>i.1.length)
    (fun i=> [(2, .ptr 0 0),(5, .dU (iB p) 0),(6, .slice (.tok 0) 1 (i.2.2.1.map encStr)),(21, .slice .shared 1 (N.map encStr)),(22, .int .i64 (N.length:Int)),(23, .int .i64 (k:Int)),(31, .slice .shared 17 (it.map fu)),(32, .int .i64 (it.length:Int)),(33, .int .i64 (k2:Int)),(39, .slice .shared 1 (y.s.said.map encStr)),(40, .int .i64 (y.s.said.length:Int)),(41, .int .i64 (i.2.1:Int))]) (fun i=>⟨[bH p],[some i.2.2.2]⟩) ?_ (y.s.said,0,qp,qp.length) ⟨rfl,hV,hoV,rfl⟩)
   rintro⟨rk,k3,nM,no⟩ ⟨l1,l2,l3,l4⟩ x8
   dsimp only at l1 l2 l3 l4
   subst l4
   cases rk with
   | nil=>
    have Uq:=drop_nil l1
    simp only [oF]at l2
    subst l2
    repeat' (first
 | simp only [go_sem,hF,hP,hY,hZ,Uq]
 | (with_reducible refine aC hQ ?_;simp only [au,aw,Option.some.injEq,exists_eq_left',go_sem,hF,hP,hY,hZ];repeat' (first | exact Ok.out | with_reducible refine aB ?_ ?_ | (simp;done))))
    refine ct 1 1 ?_ ?_ (p7 (jI,k2+1,nM,nM.length) ⟨my,j2,hVW,rfl⟩ (Nat.lt_succ_self _))
    ·(simp only [go_sem,hF,hP,hY,hZ,az fA];try exact aU)
    ·(simp only [go_sem,hF,hP,hY,hZ,az fA];try exact aU)
   | cons z rk=>
    obtain⟨AV,Jd,F8,lg4⟩:=drop_cons l1
    have zv:k3<4611686018427387904:=by omega
    have jW:=fun g s=>jq (l:=p.globals) (by omega) z g s
    simp only [oF]at l2
    rcases Bool.eq_false_or_eq_true (dL p.globals z)with c1 | c1
    ·simp only [c1,if_true]at l2
     have hY:(nM.length+1)*17≤bc:=by unfold bc;omega
     have hoo:(nM++ [z]).length≤V.length:=by have:=(rX p rk (nM++ [z])).1;rw [l2]at this;exact this
     repeat' (first
 | simp only [go_sem,hF,hP,hY,hZ,F8,AV,c1]
 | (with_reducible refine CU (jW _ _) ?_)
 | (with_reducible refine aC hQ ?_;simp only [au,aw,Option.some.injEq,exists_eq_left',go_sem,hF,hP,hY,hZ];repeat' (first | exact Ok.out | with_reducible refine aB ?_ ?_ | (simp;done))))
     refine ct 1 1 ?_ ?_ (x8 (rk,k3+1,nM++ [z],nM.length+1) ⟨Jd,l2,hoo,by simp⟩ (Nat.lt_succ_self _))
     ·(simp only [go_sem,hF,hP,hY,hZ,az zv,List.map_append,List.map_cons,List.map_nil,encStr];try exact aU)
     ·(simp only [go_sem,hF,hP,hY,hZ,az zv,List.map_append,List.map_cons,List.map_nil,encStr];try exact aU)
    ·simp only [c1,Bool.false_eq_true,if_false]at l2
     repeat' (first
 | simp only [go_sem,hF,hP,hY,hZ,F8,AV,c1]
 | (with_reducible refine CU (jW _ _) ?_)
 | (with_reducible refine aC hQ ?_;simp only [au,aw,Option.some.injEq,exists_eq_left',go_sem,hF,hP,hY,hZ];repeat' (first | exact Ok.out | with_reducible refine aB ?_ ?_ | (simp;done))))
     refine ct 1 1 ?_ ?_ (x8 (rk,k3+1,nM,nM.length) ⟨Jd,l2,l3,rfl⟩ (Nat.lt_succ_self _))
     ·(simp only [go_sem,hF,hP,hY,hZ,az zv];try exact aU)
     ·(simp only [go_sem,hF,hP,hY,hZ,az zv];try exact aU)
end Go.Abs

/-! Tc7 -/

namespace Go.Abs
open Go.Proofs
end Go.Abs

/-! ScPr -/

namespace Go.Abs
open Go.Proofs
end Go.Abs

/-! FlP -/

namespace Go.Abs
mutual
def Sm.sW (deep bo:Int) (aP:Bool):Sm→List It
 | ⟨id,kind,labels,name,proc,x,has,args,aZ,e⟩=>⟨⟨id,kind,labels,name,proc,x,has,args,aZ,e⟩,deep,bo,aP⟩::(Sm.lf (deep+1) id false aZ++Sm.lf (deep+1) id true e)
def Sm.lf (deep bo:Int) (aP:Bool):List Sm→List It
 | []=> []
 | s::l=>s.sW deep bo aP++Sm.lf deep bo aP l
end
mutual
theorem Q2 (deep bo:Int) (aP:Bool) (out:List It) : ∀ s:Sm,(fV deep bo aP out s).length≤200→(∀ i∈fV deep bo aP out s,i.deep≤12)→fV deep bo aP out s=out++s.sW deep bo aP
 | ⟨id,kind,labels,name,proc,x,has,args,aZ,e⟩,h1,h2=>by
  simp only [fV,Sm.sW]at h1 h2 ⊢
  by_cases hd:deep≤12
  ·simp only [hd,decide_true,if_true]at h1 h2 ⊢
   obtain⟨e2,g2⟩:=pe (deep+1) id true (dt (deep+1) id false (out++ [⟨⟨id,kind,labels,name,proc,x,has,args,aZ,e⟩,deep,bo,aP⟩]) aZ) e
   have k1:(dt (deep+1) id false (out++ [⟨⟨id,kind,labels,name,proc,x,has,args,aZ,e⟩,deep,bo,aP⟩]) aZ).length≤200:=by
    rw [g2,List.length_append]at h1;omega
   have k2 : ∀ i∈dt (deep+1) id false (out++ [⟨⟨id,kind,labels,name,proc,x,has,args,aZ,e⟩,deep,bo,aP⟩]) aZ,i.deep≤12:=fun i m=>h2 i (by rw [g2];exact List.mem_append_left _ m)
   rw [wA (deep+1) id true _ e h1 h2,wA (deep+1) id false _ aZ k1 k2]
   simp
  ·simp only [hd,decide_false,Bool.false_eq_true,if_false]at h1 h2
   exact absurd (h2 _ (List.mem_append_right _ (List.mem_singleton.2 rfl))) (by simpa using hd)
theorem wA (deep bo:Int) (aP:Bool) (out:List It) : ∀ l:List Sm,(dt deep bo aP out l).length≤200→(∀ i∈dt deep bo aP out l,i.deep≤12)→dt deep bo aP out l=out++Sm.lf deep bo aP l
 | [],h1,h2=>by simp [dt,Sm.lf]
 | s::l,h1,h2=>by
  simp only [dt,Sm.lf]at h1 h2 ⊢
  by_cases hc:(out.length:Int)≤200
  ·simp only [hc,decide_true,if_true]at h1 h2 ⊢
   obtain⟨e2,g2⟩:=pe deep bo aP (fV deep bo aP out s) l
   have k1:(fV deep bo aP out s).length≤200:=by rw [g2,List.length_append]at h1;omega
   have k2 : ∀ i∈fV deep bo aP out s,i.deep≤12:=fun i m=>h2 i (by rw [g2];exact List.mem_append_left _ m)
   rw [wA deep bo aP _ l h1 h2,Q2 deep bo aP out s k1 k2]
   simp
  ·simp only [hc,decide_false,Bool.false_eq_true,if_false]at h1
   omega
end
theorem Jp : ∀ (l:List Pc) (out:List It),(allM out l).length≤200→(∀ i∈allM out l,i.deep≤12)→(∀ f∈l,f.flat=Sm.lf 1 0 false f.body)∧allM out l=out++(l.map fun f=>Sm.lf 1 0 false f.body).flatten
 | [],out,h1,h2=>⟨fun f m=>(by cases m),by simp [allM]⟩
 | f::l,out,h1,h2=>by
  simp only [allM]at h1 h2 ⊢
  by_cases hc:(((out++f.flat).length:Nat):Int) > 200
  ·simp only [hc,decide_true,if_true]at h1;omega
  ·simp only [hc,decide_false,Bool.false_eq_true,if_false]at h1 h2 ⊢
   obtain⟨k1,k2⟩:=Jp l (out++f.flat) h1 h2
   have k3:f.flat=Sm.lf 1 0 false f.body:=by
    have:=wA 1 0 false [] f.body (by
     have:f.flat.length≤200:=by simp only [List.length_append]at hc;omega
     exact this) (fun i m=>h2 i (by rw [k2];exact List.mem_append_left _ (List.mem_append_right _ m)))
    simpa [Pc.flat]using this
   refine⟨fun g m=> ?_, ?_⟩
   ·rcases List.mem_cons.1 m with rfl | m
    ·exact k3
    ·exact k1 g m
   ·rw [k2,k3];simp
theorem XX {p:Pg} (h:p.may=true):(∀ f∈p.procs,f.flat=Sm.lf 1 0 false f.body)∧p.all=(p.procs.map fun f=>Sm.lf 1 0 false f.body).flatten:=by
 obtain⟨h1,h2⟩:=uz h
 have:=Jp p.procs [] h1 (wq _ 0 h2).1
 simpa [Pg.all]using this
mutual
theorem Wr (deep bo:Int) (aP:Bool) : ∀ s:Sm,(s.sW deep bo aP).map It.s=s.pre
 | ⟨id,kind,labels,name,proc,x,has,args,aZ,e⟩=>by
  simp only [Sm.sW,Sm.pre,List.map_cons,List.map_append,x9 _ _ _ aZ,x9 _ _ _ e]
theorem x9 (deep bo:Int) (aP:Bool) : ∀ l:List Sm,(Sm.lf deep bo aP l).map It.s=Sm.dN l
 | []=>rfl
 | s::l=>by simp only [Sm.lf,Sm.dN,List.map_append,Wr _ _ _ s,x9 _ _ _ l]
end
def A4 (l:List Sm) (none:Int):Int:=match l with | []=>none | t::_=>t.id
mutual
def Sm.tO (proc up next loop:Int):Sm→List Im
 | ⟨id,kind,labels,name,pc,x,has,args,aZ,aP⟩=>⟨⟨id,kind,labels,name,pc,x,has,args,aZ,aP⟩,proc,up,next,loop⟩::
  (Sm.jG proc id (if kind==6 then id else next) (if kind==6 then id else loop) aZ++Sm.jG proc id (if kind==6 then id else next) (if kind==6 then id else loop) aP)
def Sm.jG (proc up next loop:Int):List Sm→List Im
 | []=> []
 | s::l=>s.tO proc up (A4 l next) loop++Sm.jG proc up next loop l
end
def ml (n:Nat) (l:List Sm):Prop:=∀ (i:Nat) (v:Sm),l[i]? = some v→v.id=((n+i+1:Nat):Int)
theorem ml.head {n:Nat} {v:Sm} {l:List Sm} (h:ml n (v::l)):v.id=((n+1:Nat):Int):=h 0 v rfl
theorem ml.tail {n:Nat} {v:Sm} {l:List Sm} (h:ml n (v::l)):ml (n+1) l:=fun i w hw=>by
 rw [h (i+1) w (by simpa using hw)];congr 1;omega
theorem ml.left {n:Nat} {a b:List Sm} (h:ml n (a++b)):ml n a:=fun i w hw=>h i w (by rw [List.getElem?_append_left (List.getElem?_eq_some_iff.1 hw).1];exact hw)
theorem ml.right {n:Nat} {a b:List Sm} (h:ml n (a++b)):ml (n+a.length) b:=fun i w hw=>by
 rw [h (a.length+i) w (by rw [List.getElem?_append_right (by omega)];simpa using hw)];congr 1;omega
theorem Us (s:Sm):s.pre=s::(Sm.dN s.aZ++Sm.dN s.aP):=Sm.IZ s
mutual
theorem Ld : ∀ s:Sm,s.iI=s.pre.length
 | ⟨id,kind,labels,name,proc,x,has,args,aZ,aP⟩=>by
  simp only [Sm.iI,Sm.pre,List.length_cons,List.length_append,yT aZ,yT aP];omega
theorem yT : ∀ l:List Sm,Sm.eI l=(Sm.dN l).length
 | []=>rfl
 | s::l=>by simp only [Sm.eI,Sm.dN,List.length_append,Ld s,yT l]
end
mutual
theorem Ws (proc up next loop:Int) : ∀ s:Sm,(s.tO proc up next loop).map Im.s=s.pre
 | ⟨id,kind,labels,name,pc,x,has,args,aZ,aP⟩=>by
  simp only [Sm.tO,Sm.pre,List.map_cons,List.map_append,ya _ _ _ _ aZ,ya _ _ _ _ aP]
theorem ya (proc up next loop:Int) : ∀ l:List Sm,(Sm.jG proc up next loop l).map Im.s=Sm.dN l
 | []=>rfl
 | s::l=>by simp only [Sm.jG,Sm.dN,List.map_append,Ws _ _ _ _ s,ya _ _ _ _ l]
end
theorem Lf (proc up next loop:Int) (s:Sm):(s.tO proc up next loop).length=s.pre.length:=by rw [← Ws proc up next loop s,List.length_map]
theorem yU (proc up next loop:Int) (l:List Sm):(Sm.jG proc up next loop l).length=(Sm.dN l).length:=by rw [← ya proc up next loop l,List.length_map]
mutual
theorem XY (proc up next loop:Int) (out:List Im) : ∀ s:Sm,ml out.length s.pre→Im.one proc up next loop out s=out++s.tO proc up next loop
 | ⟨id,kind,labels,name,pc,x,has,args,aZ,aP⟩,h=>by
  simp only [Sm.pre]at h
  have h0:id=((out.length+1:Nat):Int):=h.head
  have h1:=h.tail.left
  have h2:=h.tail.right
  have e0:((out.length:Int)+1)=id:=by rw [h0];rfl
  simp only [Im.one,Sm.tO,e0]
  rw [yV proc id _ _ (out++ [_]) aZ (by rw [List.length_append];exact h1)]
  rw [yV proc id _ _ _ aP (by
   rw [List.length_append,List.length_append,yU];exact h2)]
  simp
theorem yV (proc up next loop:Int) (out:List Im) : ∀ l:List Sm,ml out.length (Sm.dN l)→Im.rows proc up next loop out l=out++Sm.jG proc up next loop l
 | [],h=>by simp [Im.rows,Sm.jG]
 | s::l,h=>by
  simp only [Sm.dN]at h
  have e:(if l.length=0 then next else(out.length:Int)+1+(s.iI:Int))=A4 l next:=by
   cases l with
   | nil=>rfl
   | cons t l=>
    have h2:=h.right
    simp only [Sm.dN]at h2
    rw [Us t]at h2
    simp only [List.length_cons,A4]
    rw [if_neg (by omega),h2.head,Ld]
    omega
  simp only [Im.rows,Sm.jG,e]
  rw [XY proc up _ loop out s h.left,yV proc up next loop _ l (by rw [List.length_append,Lf];exact h.right)]
  simp
end
def Fe (n:Nat):List Pc→List Im
 | []=> []
 | f::l=>Sm.jG n 0 (-1) 0 f.body++Fe (n+1) l
theorem Lg {p:Pg} (h:p.may=true):ml 0 p.pre:=fun i v hv=>by rw [aaH h hv];congr 1;omega
def rl (l:List It):Nat→Int→Int
 | 0,_=>0
 | n+1,bo=>if bo==0 then 0 else match l[n]? with
  | none=>0
  | some x=>if x.s.id != bo then rl l n bo else if x.s.kind==6 then bo else rl l n x.bo
theorem Jq (l:List It) : ∀ n,rl l n 0=0
 | 0=>rfl
 | n+1=>rfl
theorem Jr {l : List It} {bo : Int} : ∀ {n m : Nat}, m ≤ n → n ≤ l.length → (∀ (j : Nat) (x : It), m ≤ j → j < n → l[j]? = some x → x.s.id ≠ bo) → rl l n bo = rl l m bo
 | 0, m, h, _, _ => by have : m = 0 := by omega
                       rw [this]
 | n + 1, m, h, hl, hx => by
   rcases Nat.lt_or_ge m (n + 1) with h1 | h1
   · obtain ⟨x, e⟩ : ∃ x, l[n]? = some x := ⟨_, List.getElem?_eq_getElem (by omega)⟩
     by_cases hz : bo = 0
     · rw [hz, Jq, Jq]
     · simp only [rl, e]
       rw [if_neg (by simpa using hz), if_pos (by simpa using hx n x (by omega) (by omega) e)]
       exact Jr (by omega) (by omega) fun j x h1 h2 => hx j x h1 (by omega)
   · have : m = n + 1 := by omega
     rw [this]
def Up (L:List It) (k:Nat) (sW:List It) (tO:List Im):Prop:=∀ (i:Nat) (a:It) (b:Im),sW[i]? = some a→tO[i]? = some b→a.s=b.s∧a.bo=b.up∧rl L (k+i) a.bo=b.loop
mutual
theorem aa4 {L:List It} {A C:List It} {n:Nat} {proc up next loop deep:Int} {aP:Bool} : ∀ s:Sm,L=A++(s.sW deep up aP++C)→ml n (L.map It.s)→rl L A.length up=loop→Up L A.length (s.sW deep up aP) (s.tO proc up next loop)
 | ⟨id,kind,labels,name,pc,x,has,args,aZ,e⟩,hL,hid,hu=>by
  intro i a b ha hb
  have G8:L[A.length]? = some ⟨⟨id,kind,labels,name,pc,x,has,args,aZ,e⟩,deep,up,aP⟩:=by
   rw [hL,List.getElem?_append_right (Nat.le_refl _)];simp [Sm.sW]
  have hn:id=((n+A.length+1:Nat):Int):=hid A.length ⟨id,kind,labels,name,pc,x,has,args,aZ,e⟩ (by rw [List.getElem?_map,G8];rfl)
  have Ff : ∀ (j:Nat) (y:It),L[j]? = some y→y.s.id=((n+j+1:Nat):Int):=fun j y hj=>hid j y.s (by rw [List.getElem?_map,hj];rfl)
  have hu2:rl L (A.length+1) id=if kind==6 then id else loop:=by
   simp only [rl,G8]
   rw [if_neg (by simp only [beq_iff_eq];omega),if_neg (by simp)]
   split
   ·rfl
   ·exact hu
  simp only [Sm.sW]at ha hL
  simp only [Sm.tO]at hb
  have yW:(Sm.lf (deep+1) id false aZ).length=(Sm.jG proc id (if kind==6 then id else next) (if kind==6 then id else loop) aZ).length:=by
   rw [yU, ← x9 (deep+1) id false aZ,List.length_map]
  cases i with
  | zero=>
   simp only [List.getElem?_cons_zero,Option.some.injEq]at ha hb
   subst ha hb
   exact⟨rfl,rfl,hu⟩
  | succ i=>
   simp only [List.getElem?_cons_succ]at ha hb
   rcases Nat.lt_or_ge i (Sm.lf (deep+1) id false aZ).length with h1 | h1
   ·rw [List.getElem?_append_left h1]at ha
    rw [List.getElem?_append_left (by rw [← yW];exact h1)]at hb
    have:=Bs (L:=L) (A:=A++ [⟨⟨id,kind,labels,name,pc,x,has,args,aZ,e⟩,deep,up,aP⟩]) (C:=Sm.lf (deep+1) id true e++C) (n:=n) (proc:=proc) (up:=id) (next:=if kind==6 then id else next) (loop:=if kind==6 then id else loop) (deep:=deep+1) (aP:=false) (m:=A.length+1) aZ
     (by rw [hL];simp) hid hu2 (by simp) (fun j y h2 h3=>by rw [Ff j y h3,hn];omega) i a b ha hb
    simpa [Nat.add_assoc,Nat.add_comm 1 i]using this
   ·rw [List.getElem?_append_right h1]at ha
    rw [List.getElem?_append_right (by rw [← yW];exact h1)]at hb
    have:=Bs (L:=L) (A:=A++⟨⟨id,kind,labels,name,pc,x,has,args,aZ,e⟩,deep,up,aP⟩::Sm.lf (deep+1) id false aZ) (C:=C) (n:=n) (proc:=proc) (up:=id) (next:=if kind==6 then id else next) (loop:=if kind==6 then id else loop) (deep:=deep+1) (aP:=true) (m:=A.length+1) e
     (by rw [hL];simp) hid hu2 (by simp) (fun j y h2 h3=>by rw [Ff j y h3,hn];omega) (i - (Sm.lf (deep+1) id false aZ).length) a b ha (by rw [yW];exact hb)
    refine⟨this.1,this.2.1, ?_⟩
    have h3:=this.2.2
    rw [← h3]
    congr 1
    simp only [List.length_append,List.length_cons]
    omega
theorem Bs {L:List It} {A C:List It} {n m:Nat} {proc up next loop deep:Int} {aP:Bool} : ∀ l:List Sm,L=A++(Sm.lf deep up aP l++C)→ml n (L.map It.s)→rl L m up=loop→m≤A.length→(∀ (j:Nat) (y:It),m≤j→L[j]? = some y→y.s.id≠up)→Up L A.length (Sm.lf deep up aP l) (Sm.jG proc up next loop l)
 | [],hL,hid,hu,hm,fE=>fun i a b ha hb=>by simp [Sm.lf]at ha
 | s::l,hL,hid,hu,hm,fE=>by
  intro i a b ha hb
  simp only [Sm.lf]at ha hL
  simp only [Sm.jG]at hb
  have hAL:A.length≤L.length:=by rw [hL];simp
  have hu1:rl L A.length up=loop:=by rw [Jr hm hAL fun j y h1 h2=>fE j y h1];exact hu
  have yW:(s.sW deep up aP).length=(s.tO proc up (A4 l next) loop).length:=by rw [Lf, ← Wr deep up aP s,List.length_map]
  rcases Nat.lt_or_ge i (s.sW deep up aP).length with h1 | h1
  ·rw [List.getElem?_append_left h1]at ha
   rw [List.getElem?_append_left (by rw [← yW];exact h1)]at hb
   exact aa4 (C:=Sm.lf deep up aP l++C) (n:=n) s (by rw [hL];simp) hid hu1 i a b ha hb
  ·rw [List.getElem?_append_right h1]at ha
   rw [List.getElem?_append_right (by rw [← yW];exact h1)]at hb
   have:=Bs (A:=A++s.sW deep up aP) (C:=C) (n:=n) (m:=m) (proc:=proc) (next:=next) (loop:=loop) l (by rw [hL];simp) hid hu (by simp;omega) fE (i - (s.sW deep up aP).length) a b ha (by rw [yW];exact hb)
   refine⟨this.1,this.2.1, ?_⟩
   have h3:=this.2.2
   rw [← h3]
   congr 1
   simp only [List.length_append]
   omega
end
end Go.Abs

/-! JmpP -/

namespace Go.Abs
def ie (seen:List aF):List aF→List aF×Bool
 | []=>(seen,true)
 | n::l=>if dL seen n then(seen,false)else ie (seen++ [n]) l
theorem Gj : ∀ (l seen:List aF),ie seen l=(if pH seen l then((ie seen l).1,false)else(seen++l,true))
 | [],seen=>by simp [ie,pH]
 | n::l,seen=>by
  simp only [ie,pH]
  split
  ·rfl
  ·rw [Gj l (seen++ [n])]
   split
   ·rfl
   ·simp
theorem Lh : ∀ (a b seen:List aF),pH seen (a++b)=(pH seen a || pH (seen++a) b)
 | [],b,seen=>by simp [pH]
 | x::a,b,seen=>by
  simp only [List.cons_append,pH]
  split
  ·rfl
  ·rw [Lh a b (seen++ [x])];simp
theorem B0 {seen l:List aF} (h:eH seen=false):ie seen l=(if eH (seen++l)then((ie seen l).1,false)else(seen++l,true)):=by
 rw [Gj]
 have:eH (seen++l)=pH seen l:=by unfold eH at h ⊢;rw [Lh,h];simp
 rw [this]
 split <;> rfl
theorem Gk : ∀ (l seen:List aF),seen.length≤(ie seen l).1.length∧(ie seen l).1.length≤seen.length+l.length
 | [],seen=>by simp [ie]
 | n::l,seen=>by
  simp only [ie]
  split
  ·simp
  ·have:=Gk l (seen++ [n]);simp at this ⊢;omega
def ur (N6:List aF) (v:Sm) (loop:Int):Bool:=if v.kind==7 || v.kind==8 then loop != 0 else if v.kind==10 then dL N6 v.name else true
def rm (N6 fin seen:List aF):List (Sm×Int)→Option Int
 | []=>if(ie seen fin).2 then none else some 0
 | (v,lp)::l=>if(ie seen v.labels).2 then(if ur N6 v lp then rm N6 fin (ie seen v.labels).1 l else some v.id)else some v.id
def fw:List Sm→List aF
 | []=> []
 | v::l=>v.labels++fw l
def Pc.labels (f:Pc):List aF:=fw (Sm.dN f.body)++f.fin
def Im.pair (m:Im):Sm×Int:=(m.s,m.loop)
def Pc.sy (f:Pc):List (Sm×Int):=(Sm.jG 0 0 (-1) 0 f.body).map Im.pair
def qi:List Pc→Option Int
 | []=>none
 | f::l=>match rm f.labels f.fin [] f.sy with
  | some id=>some id
  | none=>qi l
def lg (c:Int):Option Int→Int×Int
 | some id=>(c,id)
 | none=>(0,0)
def Pg.jump (p:Pg):Int×Int:=if p.scope.1==0 then lg 7 (qi p.procs)else(1,0)
mutual
theorem Ut (proc up next uu Q3 next' loop:Int) : ∀ s:Sm,(s.tO proc up next loop).map Im.pair=(s.tO uu Q3 next' loop).map Im.pair
 | ⟨id,kind,labels,name,pc,x,has,args,aZ,aP⟩=>by
  simp only [Sm.tO,List.map_cons,List.map_append,Im.pair]
  rw [wB proc id _ uu id (if kind==6 then id else next') _ aZ,wB proc id _ uu id (if kind==6 then id else next') _ aP]
theorem wB (proc up next uu Q3 next' loop:Int) : ∀ l:List Sm,(Sm.jG proc up next loop l).map Im.pair=(Sm.jG uu Q3 next' loop l).map Im.pair
 | []=>rfl
 | s::l=>by
  simp only [Sm.jG,List.map_append]
  rw [Ut proc up _ uu Q3 (A4 l next') loop s,wB proc up next uu Q3 next' loop l]
end
theorem Uu (n:Int) (f:Pc):(Sm.jG n 0 (-1) 0 f.body).map Im.pair=f.sy:=wB _ _ _ _ _ _ _ _
def ig (l:List It):Nat→Int→Int
 | 0,_=>0
 | n+1,id=>match l[n]? with
  | none=>0
  | some x=>if x.s.id != id then ig l n id else if rl l n x.bo != 0 then rl l n x.bo else ig l n id
theorem DS {l:List It} {id:Int} : ∀ {n:Nat},(∀ (j:Nat) (x:It),j<n→l[j]? = some x→x.s.id≠id)→ig l n id=0
 | 0,_=>rfl
 | n+1,h=>by
  simp only [ig]
  split
  ·rfl
  ·rename_i x e
   rw [if_pos (by simpa using h n x (by omega) e)]
   exact DS fun j x hj=>h j x (by omega)
theorem DT {l:List It} {b i:Nat} {x:It} (hid:ml b (l.map It.s)) (hx:l[i]? = some x) : ∀ {n:Nat},i<n→n≤l.length→ig l n x.s.id=rl l i x.bo
 | 0,h,_=>by omega
 | n+1,h,hn=>by
  have Ff : ∀ (j:Nat) (y:It),l[j]? = some y→y.s.id=((b+j+1:Nat):Int):=fun j y hj=>hid j y.s (by rw [List.getElem?_map,hj];rfl)
  obtain⟨y,e⟩ : ∃ y,l[n]? = some y:=⟨_,List.getElem?_eq_getElem (by omega)⟩
  have h1:=Ff n y e
  have h2:=Ff i x hx
  simp only [ig,e]
  rcases Nat.lt_or_ge i n with h3 | h3
  ·rw [if_pos (by simp only [bne_iff_ne,ne_eq];omega)]
   exact DT hid hx h3 (by omega)
  ·have:i=n:=by omega
   subst this
   rw [hx]at e
   cases e
   rw [if_neg (by simp)]
   split
   ·rfl
   ·rename_i h4
    rw [DS fun j z hj hz=>by rw [Ff j z hz,h2];omega]
    simpa using Eq.symm (by simpa using h4)
theorem Kz {p:Pg} (hb:p.may=true) {f:Pc} (hf:f∈p.procs):f.flat.length=f.sy.length∧∀ (i:Nat) (a:It),f.flat[i]? = some a→f.sy[i]? = some (a.s,ig f.flat f.flat.length a.s.id):=by
 have jK:=(XX hb).1 f hf
 obtain⟨base,sr⟩ : ∃ n,ml n (Sm.dN f.body):=by
  have h:=Lg hb
  obtain⟨a,c,e⟩:=List.append_of_mem hf
  unfold Pg.pre at h
  rw [e,List.map_append,List.flatten_append,List.map_cons,List.flatten_cons]at h
  exact⟨_,h.right.left⟩
 have hid:ml base (f.flat.map It.s):=by rw [jK,x9];exact sr
 have hup:=Bs (L:=f.flat) (A:= []) (C:= []) (n:=base) (m:=0) (proc:=0) (up:=0) (next:= -1) (loop:=0) (deep:=1) (aP:=false) f.body (by rw [jK];simp) hid rfl (Nat.zero_le _) (fun j y _ hj=>by
  rw [hid j y.s (by rw [List.getElem?_map,hj];rfl)];omega)
 have hlen:f.flat.length=f.sy.length:=by
  unfold Pc.sy
  rw [List.length_map,yU,jK, ← x9 1 0 false f.body,List.length_map]
 refine⟨hlen,fun i a ha=> ?_⟩
 have hi:=(List.getElem?_eq_some_iff.1 ha).1
 have nR:(Sm.jG 0 0 (-1) 0 f.body).length=f.sy.length:=by unfold Pc.sy;rw [List.length_map]
 obtain⟨m,hm⟩ : ∃ m,(Sm.jG 0 0 (-1) 0 f.body)[i]? = some m:=⟨_,List.getElem?_eq_getElem (by omega)⟩
 obtain⟨e1,e2,e3⟩:=hup i a m (by rw [← jK];exact ha) hm
 rw [DT hid ha hi (Nat.le_refl _)]
 unfold Pc.sy
 rw [List.getElem?_map,hm]
 simp only [List.length_nil,Nat.zero_add]at e3
 show some (m.s,m.loop)=_
 rw [e1,e3]
end Go.Abs

/-! Jm1 -/

namespace Go.Abs
set_option maxRecDepth 8000
open Go.Proofs
theorem Li : ∀ (l:List Pc) (n:Nat) (h:Sh),h.lo.length=n→h.hi.length=n→ml h.L.length ((l.map fun f=>Sm.dN f.body).flatten)→
 ∃ lo hi,Sh.go n h l = ⟨h.L++Fe n l,h.lo++lo,h.hi++hi⟩∧lo.length=l.length∧hi.length=l.length∧
  ∀ (i:Nat) (f:Pc),l[i]? = some f→∃ a e:List Im,lo[i]? = some (((h.L++a).length:Int)+1)∧hi[i]? = some (((h.L++a++Sm.jG ((n+i:Nat):Int) 0 (-1) 0 f.body).length:Int)+1)∧Fe n l=a++Sm.jG ((n+i:Nat):Int) 0 (-1) 0 f.body++e
 | [],n,h,hl,hh,_=>⟨[],[],by simp [Sh.go,Fe],rfl,rfl,fun i f h=>by simp at h⟩
 | f::l,n,h,hl,hh,hi=>by
  simp only [List.map_cons,List.flatten_cons]at hi
  simp only [Sh.go,Fe]
  have e1:=yV (n:Int) 0 (-1) 0 h.L f.body hi.left
  obtain⟨lo,ik,h2,h3,h4,h5⟩:=Li l (n+1) ⟨Im.rows (n:Int) 0 (-1) 0 h.L f.body,h.lo++ [(h.L.length:Int)+1],h.hi++ [((Im.rows (n:Int) 0 (-1) 0 h.L f.body).length:Int)+1]⟩ (by simp [hl]) (by simp [hh]) (by
   show ml (Im.rows (n:Int) 0 (-1) 0 h.L f.body).length _
   rw [e1,List.length_append,yU];exact hi.right)
  refine⟨((h.L.length:Int)+1)::lo,(((Im.rows (n:Int) 0 (-1) 0 h.L f.body).length:Int)+1)::ik, ?_,by simp [h3],by simp [h4],fun i g ik=> ?_⟩
  ·rw [h2,e1];simp
  ·cases i with
   | zero=>
    simp only [List.getElem?_cons_zero,Option.some.injEq]at ik
    subst ik
    exact⟨[],Fe (n+1) l,by simp,by rw [e1];simp,by simp⟩
   | succ i=>
    simp only [List.getElem?_cons_succ]at ik
    obtain⟨a,e,g1,g2,g3⟩:=h5 i g ik
    have en:n+1+i=n+(i+1):=by omega
    rw [en]at g2 g3
    refine⟨Sm.jG n 0 (-1) 0 f.body++a,e, ?_, ?_,by rw [g3];simp⟩
    ·rw [List.getElem?_cons_succ,g1,e1];simp
    ·rw [List.getElem?_cons_succ,g2,e1];simp
theorem aa5 {p:Pg} (hb:p.may=true) {i:Nat} {f:Pc} (hf:p.procs[i]? = some f) (hs:Pc.aS p.procs<1000000000) (s:St) :
 aE Tryz.prog gJ [.dU (iB p) 0, .int .i64 (i:Int)] s (.slice .shared 17 ((Sm.jG (i:Int) 0 (-1) 0 f.body).map fu)) s:=by
 obtain⟨lo,hi,h1,h2,h3,h4⟩:=Li p.procs 0 ⟨[],[],[]⟩ rfl rfl (Lg hb)
 obtain⟨a,e,g1,g2,g3⟩:=h4 i f hf
 simp only [Nat.zero_add,List.nil_append]at g1 g2 g3 h1
 refine aar hs (a:=a) (e:=e) ?_ ?_ ?_ s
 ·show(Sh.go 0 ⟨[],[],[]⟩ p.procs).lo[i]? = _
  rw [h1];exact g1
 ·show(Sh.go 0 ⟨[],[],[]⟩ p.procs).hi[i]? = _
  rw [h1];exact g2
 ·show(Sh.go 0 ⟨[],[],[]⟩ p.procs).L=_
  rw [h1];exact g3
theorem aE.aph {P:Program} {f:FuncId} {pre post:List D} {rows lh:List (List D)} {z z' k k':Nat} {b:Bool} (h:aE P f (pre++ .slice (.tok 0) z rows::post) ⟨[],[some k]⟩ (.tuple [.slice (.tok 0) z' lh, .bool b]) ⟨[],[some k']⟩)
 (hp:D.bR 0 0 pre=true) (ha:D.bR 0 0 post=true) (hw:D.ji 0 0 rows=true) (Pw:D.ji 0 0 lh=true)
 {s:St} {t:Nat} (ht:s.aH[t]? = some (some k)):aE P f (pre++ .slice (.tok t) z rows::post) s (.tuple [.slice (.tok t) z' lh, .bool b]) ⟨s.aG,s.aH.set t (some k')⟩:=by
 refine eU.frame [] [t] h (by simp) (by simp) (by simp) (by simpa using (List.getElem?_eq_some_iff.1 ht).1) rfl (fun i o' ds e1 e2=>by simp at e1) rfl (fun i t' e1=> ?_)
  ?_ ?_ ?_
 ·cases i with
  | zero=>simp at e1;subst e1;simp [ht]
  | succ i=>simp at e1
 ·have h1:=fF [] [t] _ hp
  have h2:=fF [] [t] _ ha
  rw [fU]at h1 h2
  simp [fU,D.dW,Tag.dW,h1,h2,jz _ _ _ hw]
 ·have h1:=iu (n':=0) (m':=1) (Nat.le_refl 0) (Nat.zero_le 1) _ hp
  have h2:=iu (n':=0) (m':=1) (Nat.le_refl 0) (Nat.zero_le 1) _ ha
  rw [Aa]at h1 h2 ⊢
  simp only [List.length_nil,List.length_cons,List.all_append,h1,Bool.true_and,List.all_cons,h2,Bool.and_true,D.ok,Tag.ok,nB (Nat.zero_le 0) (Nat.zero_le 1) _ hw]
  rfl
 ·rintro _ _ ⟨rfl,rfl⟩
  refine⟨by simp [D.back,D.dW,D.gA,Tag.dW,ku,jz _ _ _ Pw], ?_⟩
  simp [St.back,ky]
theorem aa6 {seen l:List aF} (hl:seen.length+l.length<1000000000):aE Tryz.prog pT [.slice (.tok 0) 1 (seen.map encStr), .slice .shared 1 (l.map encStr)] ⟨[],[some seen.length]⟩
 (.tuple [.slice (.tok 0) 1 ((ie seen l).1.map encStr), .bool (ie seen l).2]) ⟨[],[some (ie seen l).1.length]⟩:=by
 generalize hR:ie seen l=R
 refine aE.go GM rfl fun B Q hB hQ=> ?_
 have⟨hF,hP,hY,hZ⟩:=bq
 repeat' (first
 | simp only [go_sem,hF,hP,hY,hZ]
 | (with_reducible refine aC hQ ?_;simp only [au,aw,Option.some.injEq,exists_eq_left',go_sem,hF,hP,hY,hZ];repeat' (first | exact Ok.out | with_reducible refine aB ?_ ?_ | (simp;done))))
 refine cd 0 1 (a8.ind (ι:=List aF×Nat×List aF×Nat) (fun i=>l.drop i.2.1=i.1∧ie i.2.2.1 i.1=R∧i.2.2.2=i.2.2.1.length∧i.2.2.1.length+i.1.length<1000000000) (fun i=>i.1.length)
  (fun i=> [(0, .slice (.tok 0) 1 (i.2.2.1.map encStr)),(8, .slice .shared 1 (l.map encStr)),(9, .int .i64 (l.length:Int)),(10, .int .i64 (i.2.1:Int))]) (fun i=>⟨[],[some i.2.2.2]⟩) ?_ (l,0,seen,seen.length) ⟨rfl,hR,rfl,hl⟩)
 clear hR
 rintro⟨rest,k,out,n⟩ ⟨h1,h2,h3,h4⟩ IH
 dsimp only at h1 h2 h3 h4
 subst h3
 cases rest with
 | nil=>
  have hF:=drop_nil h1
  simp only [ie]at h2
  subst h2
  repeat' (first
 | simp only [go_sem,hF,hP,hY,hZ]
 | (with_reducible refine aC hQ ?_;simp only [au,aw,Option.some.injEq,exists_eq_left',go_sem,hF,hP,hY,hZ];repeat' (first | exact Ok.out | with_reducible refine aB ?_ ?_ | (simp;done))))
 | cons x rest=>
  obtain⟨hP,g2,hF,g4⟩:=drop_cons h1
  have bl:k<4611686018427387904:=by omega
  simp only [List.length_cons]at h4
  have hY:(out.length+1)*17≤bc:=by unfold bc;omega
  have jW:=fun g s=>jq (l:=out) (by omega) x g s
  simp only [ie]at h2
  rcases Bool.eq_false_or_eq_true (dL out x)with c1 | c1
  ·simp only [c1,if_true]at h2
   subst h2
   repeat' (first
 | simp only [go_sem,hF,hP,hY,hZ,c1]
 | (with_reducible refine CU (jW _ _) ?_)
 | (with_reducible refine aC hQ ?_;simp only [au,aw,Option.some.injEq,exists_eq_left',go_sem,hF,hP,hY,hZ];repeat' (first | exact Ok.out | with_reducible refine aB ?_ ?_ | (simp;done))))
  ·simp only [c1,Bool.false_eq_true,if_false]at h2
   repeat' (first
 | simp only [go_sem,hF,hP,hY,hZ,c1]
 | (with_reducible refine CU (jW _ _) ?_)
 | (with_reducible refine aC hQ ?_;simp only [au,aw,Option.some.injEq,exists_eq_left',go_sem,hF,hP,hY,hZ];repeat' (first | exact Ok.out | with_reducible refine aB ?_ ?_ | (simp;done))))
   refine ct 0 1 ?_ ?_ (IH (rest,k+1,out++ [x],out.length+1) ⟨g2,h2,by simp,by simp;omega⟩ (Nat.lt_succ_self _))
   ·(simp only [go_sem,hF,hP,hY,hZ,az bl,List.map_append,List.map_cons,List.map_nil,encStr];try exact aU)
   ·(simp only [go_sem,hF,hP,hY,hZ,az bl,List.map_append,List.map_cons,List.map_nil,encStr];try exact aU)
theorem Q4 {seen l:List aF} (hl:seen.length+l.length<1000000000) {s:St} {t:Nat} (ht:s.aH[t]? = some (some seen.length)):aE Tryz.prog pT [.slice (.tok t) 1 (seen.map encStr), .slice .shared 1 (l.map encStr)] s
 (.tuple [.slice (.tok t) 1 ((ie seen l).1.map encStr), .bool (ie seen l).2]) ⟨s.aG,s.aH.set t (some (ie seen l).1.length)⟩:=
 (aa6 hl).aph (pre:= []) (post:= [_]) rfl (by simp [D.bR,D.ok,Tag.ok,dJ]) (dJ _) (dJ _) ht
end Go.Abs

/-! Jm2 -/

namespace Go.Abs
set_option maxRecDepth 8000
open Go.Proofs
theorem Uv (x:Im):(fu x)[2]? = some (.slice .shared 1 (x.s.labels.map encStr)):=nd rfl
theorem Q5 (x:Im):(fu x)[3]? = some (.str x.s.name):=nd rfl
attribute [go_sem] Uv Q5
def rn (fin:List aF) (label:aF):List Sm→Int×Bool
 | []=>if dL fin label then(-1,true)else(0,false)
 | v::l=>if dL v.labels label then(v.id,true)else rn fin label l
theorem Gl (fin:List aF) (label:aF) : ∀ l:List Sm,(rn fin label l).2=dL (fw l++fin) label
 | []=>by simp only [rn,fw,List.nil_append];split <;> simp_all
 | v::l=>by
  simp only [rn,fw,List.append_assoc]
  have h:=Gl fin label l
  rw [Bool.eq_iff_iff,gl]at h
  split
  ·rename_i c
   exact((gl _ _).2 (List.mem_append.2 (.inl ((gl _ _).1 c)))).symm
  ·rename_i c
   have:label∉v.labels:=fun m=>c ((gl _ _).2 m)
   rw [Bool.eq_iff_iff,h,gl]
   exact⟨fun m=>List.mem_append.2 (.inr m),fun m=>(List.mem_append.1 m).resolve_left this⟩
theorem Js {p:Pg} {v:Sm} (ho:p.iC) {f:Pc} (hf:f∈p.procs) (hv:v∈Sm.dN f.body):v.labels.length≤900000:=by
 have key : ∀ n:Nat,(∀ s:Sm,s.pre.length≤n→∀ v∈s.pre,v.labels.length≤s.size)∧(∀ l:List Sm,(Sm.dN l).length≤n→∀ v∈Sm.dN l,v.labels.length≤Sm.aS l):=by
  intro n
  induction n with
  | zero=>
   refine⟨fun s h=>by rw [Sm.IZ]at h;simp at h,fun l h v m=> ?_⟩
   have:=List.eq_nil_of_length_eq_zero (Nat.le_zero.1 h)
   rw [this]at m;cases m
  | succ n ih=>
   have h1 : ∀ s:Sm,s.pre.length≤n+1→∀ v∈s.pre,v.labels.length≤s.size:=by
    intro s h v m
    rw [Sm.IZ]at h m
    simp only [List.length_cons,List.length_append]at h
    obtain⟨id,kind,labels,name,proc,x,has,args,aZ,aP⟩:=s
    simp only [Sm.size]
    rcases List.mem_cons.1 m with rfl | m
    ·dsimp only;omega
    ·rcases List.mem_append.1 m with m | m
     ·have:=ih.2 aZ (by dsimp only at h;omega) v m;omega
     ·have:=ih.2 aP (by dsimp only at h;omega) v m;omega
   refine⟨h1,fun l=> ?_⟩
   induction l with
   | nil=>intro _ v m;cases m
   | cons s l P9=>
    intro h v m
    simp only [Sm.dN,List.length_append]at h
    simp only [Sm.dN]at m
    simp only [Sm.aS]
    rcases List.mem_append.1 m with m | m
    ·have:=h1 s (by omega) v m;omega
    ·have:=P9 (by omega) v m;omega
 have h1:=(key (Sm.dN f.body).length).2 f.body (Nat.le_refl _) v hv
 have h2:=Pc.bV hf
 have h3:=ho.procs.2.1
 simp only [Pc.size]at h2
 omega
theorem A5 {p:Pg} (ho:p.iC) {f:Pc} (hf:f∈p.procs):f.fin.length≤900000:=by
 have h2:=Pc.bV hf
 have h3:=ho.procs.2.1
 simp only [Pc.size]at h2
 omega
theorem DU {p:Pg} (ho:p.iC) {f:Pc} (hf:f∈p.procs):(Sm.dN f.body).length≤900000:=by
 rw [← yT]
 have:=kQ f.body
 have h2:=Pc.bV hf
 have h3:=ho.procs.2.1
 simp only [Pc.size]at h2
 omega
theorem api {p:Pg} (ho:p.iC) (hb:p.may=true) {i:Nat} {f:Pc} (hf:p.procs[i]? = some f) (label:aF) (s:St) :
 aE Tryz.prog qU [.dU (iB p) 0, .int .i64 (i:Int), .str label] s (.tuple [.int .i64 (rn f.fin label (Sm.dN f.body)).1, .bool (rn f.fin label (Sm.dN f.body)).2]) s:=by
 refine aE.pure ?_ (by simp [D.bR,D.ok,yI]) rfl s
 obtain⟨oP,nq,pG⟩:=ho.procs
 have mZ:=List.mem_of_getElem? hf
 have DL:=fun s=>aa5 hb hf (by omega) s
 have rW:=ya (i:Int) 0 (-1) 0 f.body
 have Jt:=DU ho mZ
 have aa7:=A5 ho mZ
 have wu:=fun s=>q8 (l:=f.fin) (by omega) label s
 have pF:i<p.procs.length:=(List.getElem?_eq_some_iff.1 hf).1
 generalize hI:Sm.jG (i:Int) 0 (-1) 0 f.body=I at *
 have hIl:I.length≤900000:=by rw [← rW,List.length_map]at Jt;exact Jt
 obtain⟨R,hR⟩ : ∃ R,rn f.fin label (Sm.dN f.body)=R:=⟨_,rfl⟩
 rw [hR]
 rw [← rW]at hR
 unfold S0
 refine aE.go BD rfl fun B Q hB hQ=> ?_
 have⟨hF,hP,hY,hZ⟩:=bq
 repeat' (first
 | simp only [go_sem,hF,hP,hY,hZ]
 | (with_reducible refine CU (DL _) ?_)
 | (with_reducible refine aC hQ ?_;simp only [au,aw,Option.some.injEq,exists_eq_left',go_sem,hF,hP,hY,hZ];repeat' (first | exact Ok.out | with_reducible refine aB ?_ ?_ | (simp;done))))
 refine cd 0 0 (a8.ind (ι:=List Im×Nat) (fun j=>I.drop j.2=j.1∧rn f.fin label (j.1.map Im.s)=R) (fun j=>j.1.length)
  (fun j=> [(0, .dU (iB p) 0),(1, .int .i64 (i:Int)),(2, .str label),(12, .slice .shared 17 (I.map fu)),(13, .int .i64 (I.length:Int)),(14, .int .i64 (j.2:Int))]) (fun j=>⟨[],[]⟩) ?_ (I,0) ⟨rfl,hR⟩)
 clear hR
 rintro⟨rest,k⟩ ⟨h1,h2⟩ IH
 dsimp only at h1 h2
 cases rest with
 | nil=>
  have hF:=drop_nil h1
  simp only [List.map_nil,rn]at h2
  rcases Bool.eq_false_or_eq_true (dL f.fin label)with c1 | c1
  ·simp only [c1,if_true]at h2
   subst h2
   repeat' (first
 | simp only [go_sem,hF,hP,hY,hZ,rV,hf,c1]
 | (with_reducible refine CU (wu _) ?_)
 | (with_reducible refine aC hQ ?_;simp only [au,aw,Option.some.injEq,exists_eq_left',go_sem,hF,hP,hY,hZ];repeat' (first | exact Ok.out | with_reducible refine aB ?_ ?_ | (simp;done))))
  ·simp only [c1,Bool.false_eq_true,if_false]at h2
   subst h2
   repeat' (first
 | simp only [go_sem,hF,hP,hY,hZ,rV,hf,c1]
 | (with_reducible refine CU (wu _) ?_)
 | (with_reducible refine aC hQ ?_;simp only [au,aw,Option.some.injEq,exists_eq_left',go_sem,hF,hP,hY,hZ];repeat' (first | exact Ok.out | with_reducible refine aB ?_ ?_ | (simp;done))))
 | cons a rest=>
  obtain⟨hP,g2,hF,g4⟩:=drop_cons h1
  have bl:k<4611686018427387904:=by omega
  have wv:a.s∈Sm.dN f.body:=by rw [← rW];exact List.mem_map_of_mem (List.mem_of_getElem? hP)
  have zj:=fun s=>q8 (l:=a.s.labels) (by have:=Js ho mZ wv;omega) label s
  simp only [List.map_cons,rn]at h2
  rcases Bool.eq_false_or_eq_true (dL a.s.labels label)with c1 | c1
  ·simp only [c1,if_true]at h2
   subst h2
   repeat' (first
 | simp only [go_sem,hF,hP,hY,hZ,c1]
 | (with_reducible refine CU (zj _) ?_)
 | (with_reducible refine aC hQ ?_;simp only [au,aw,Option.some.injEq,exists_eq_left',go_sem,hF,hP,hY,hZ];repeat' (first | exact Ok.out | with_reducible refine aB ?_ ?_ | (simp;done))))
  ·simp only [c1,Bool.false_eq_true,if_false]at h2
   repeat' (first
 | simp only [go_sem,hF,hP,hY,hZ,c1]
 | (with_reducible refine CU (zj _) ?_)
 | (with_reducible refine aC hQ ?_;simp only [au,aw,Option.some.injEq,exists_eq_left',go_sem,hF,hP,hY,hZ];repeat' (first | exact Ok.out | with_reducible refine aB ?_ ?_ | (simp;done))))
   refine ct 0 0 ?_ ?_ (IH (rest,k+1) ⟨g2,h2⟩ (Nat.lt_succ_self _))
   ·(simp only [go_sem,hF,hP,hY,hZ,az bl];try exact aU)
   ·(simp only [go_sem,hF,hP,hY,hZ,az bl];try exact aU)
theorem XZ {p:Pg} (ho:p.iC) (hb:p.may=true) {i:Nat} {f:Pc} (hf:p.procs[i]? = some f) (m:Im) (hm:m.proc=(i:Int)) (s:St) :
 aE Tryz.prog u5 [.dU (iB p) 0, .agg (fu m)] s (.bool (ur f.labels m.s m.loop)) s:=by
 refine aE.pure ?_ (by simp [D.bR,D.ok,yI,NN]) rfl s
 have tF:=fun s=>api ho hb hf m.s.name s
 have aa8:=Gl f.fin m.s.name (Sm.dN f.body)
 rw [← hm]at tF
 obtain⟨A,hA⟩ : ∃ A,rn f.fin m.s.name (Sm.dN f.body)=A:=⟨_,rfl⟩
 rw [hA]at tF aa8
 obtain⟨R,hR⟩ : ∃ R,ur f.labels m.s m.loop=R:=⟨_,rfl⟩
 rw [hR]
 unfold ur Pc.labels at hR
 unfold S0
 rcases Bool.eq_false_or_eq_true (m.s.kind==7)with c1 | c1
 ·simp only [c1,Bool.true_or,if_true]at hR
  subst hR
  refine aE.go py rfl fun B Q hB hQ=> ?_
  have⟨hF,hP,hY,hZ⟩:=bq
  repeat' (first
 | simp only [go_sem,hF,hP,hY,hZ,c1]
 | (with_reducible refine aC hQ ?_;simp only [au,aw,Option.some.injEq,exists_eq_left',go_sem,hF,hP,hY,hZ];repeat' (first | exact Ok.out | with_reducible refine aB ?_ ?_ | (simp;done))))
 rcases Bool.eq_false_or_eq_true (m.s.kind==8)with c2 | c2
 ·simp only [c1,c2,Bool.or_true,if_true]at hR
  subst hR
  refine aE.go py rfl fun B Q hB hQ=> ?_
  have⟨hF,hP,hY,hZ⟩:=bq
  repeat' (first
 | simp only [go_sem,hF,hP,hY,hZ,c1,c2]
 | (with_reducible refine aC hQ ?_;simp only [au,aw,Option.some.injEq,exists_eq_left',go_sem,hF,hP,hY,hZ];repeat' (first | exact Ok.out | with_reducible refine aB ?_ ?_ | (simp;done))))
 rcases Bool.eq_false_or_eq_true (m.s.kind==10)with c3 | c3
 ·simp only [c1,c2,c3,Bool.or_self,Bool.false_eq_true,if_false,if_true, ← aa8]at hR
  subst hR
  refine aE.go py rfl fun B Q hB hQ=> ?_
  have⟨hF,hP,hY,hZ⟩:=bq
  repeat' (first
 | simp only [go_sem,hF,hP,hY,hZ,c1,c2,c3]
 | (with_reducible refine CU (tF _) ?_)
 | (with_reducible refine aC hQ ?_;simp only [au,aw,Option.some.injEq,exists_eq_left',go_sem,hF,hP,hY,hZ];repeat' (first | exact Ok.out | with_reducible refine aB ?_ ?_ | (simp;done))))
 ·simp only [c1,c2,c3,Bool.or_self,Bool.false_eq_true,if_false]at hR
  subst hR
  refine aE.go py rfl fun B Q hB hQ=> ?_
  have⟨hF,hP,hY,hZ⟩:=bq
  repeat' (first
 | simp only [go_sem,hF,hP,hY,hZ,c1,c2,c3]
 | (with_reducible refine aC hQ ?_;simp only [au,aw,Option.some.injEq,exists_eq_left',go_sem,hF,hP,hY,hZ];repeat' (first | exact Ok.out | with_reducible refine aB ?_ ?_ | (simp;done))))
end Go.Abs

/-! Jm3 -/

namespace Go.Abs
set_option maxRecDepth 8000
open Go.Proofs
theorem X0 {p:Pg} (h:p.iC) (jb:(p.scope.1==0)=true) (s:St):aE Tryz.prog qQ [.agg (bH p)] s (.dU (iB p) 0) s:=by
 refine aE.pure ?_ (by simp [D.bR,D.ok,fX]) (by simp [D.ok,yI]) s
 obtain⟨oP,nq,pG⟩:=h.procs
 have tC:=fun s=>vr h s
 have ey:=fun s=>Dy (p:=p) (by omega) s
 have b0:(p.scope.1 != 0) = !(p.scope.1==0):=rfl
 rw [jb]at b0
 unfold S0
 refine aE.go xI rfl fun B Q hB hQ=> ?_
 have⟨hF,hP,hY,hZ⟩:=bq
 repeat' (first
 | simp only [go_sem,hF,hP,hY,hZ,b0,Bool.not_true]
 | (with_reducible refine CU (tC _) ?_)
 | (with_reducible refine CU (ey _) ?_)
 | (with_reducible refine aC hQ ?_;simp only [au,aw,Option.some.injEq,exists_eq_left',go_sem,hF,hP,hY,hZ];repeat' (first | exact Ok.out | with_reducible refine aB ?_ ?_ | (simp;done))))
theorem X1 {p:Pg} (h:p.iC) (jb:(p.scope.1==0)=false) (s:St):aE Tryz.prog qQ [.agg (bH p)] s .fB s:=by
 refine aE.pure ?_ (by simp [D.bR,D.ok,fX]) rfl s
 have tC:=fun s=>vr h s
 have b0:(p.scope.1 != 0) = !(p.scope.1==0):=rfl
 rw [jb]at b0
 unfold S0
 refine aE.go xI rfl fun B Q hB hQ=> ?_
 have⟨hF,hP,hY,hZ⟩:=bq
 repeat' (first
 | simp only [go_sem,hF,hP,hY,hZ,b0,Bool.not_false]
 | (with_reducible refine CU (tC _) ?_)
 | (with_reducible refine aC hQ ?_;simp only [au,aw,Option.some.injEq,exists_eq_left',go_sem,hF,hP,hY,hZ];repeat' (first | exact Ok.out | with_reducible refine aB ?_ ?_ | (simp;done))))
mutual
theorem Uw {pr up next loop:Int} : ∀ (s:Sm) (m:Im),m∈s.tO pr up next loop→m.proc=pr
 | ⟨id,kind,labels,name,pc,x,has,args,aZ,aP⟩,m,h=>by
  simp only [Sm.tO]at h
  rcases List.mem_cons.1 h with rfl | h
  ·rfl
  ·rcases List.mem_append.1 h with h | h
   ·exact wC aZ m h
   ·exact wC aP m h
theorem wC {pr up next loop:Int} : ∀ (l:List Sm) (m:Im),m∈Sm.jG pr up next loop l→m.proc=pr
 | s::l,m,h=>by
  simp only [Sm.jG]at h
  rcases List.mem_append.1 h with h | h
  ·exact Uw s m h
  ·exact wC l m h
end
theorem xn : ∀ a b:List Sm,fw (a++b)=fw a++fw b
 | [],b=>rfl
 | v::a,b=>by simp only [List.cons_append,fw,xn a b,List.append_assoc]
mutual
theorem KA : ∀ s:Sm,(fw s.pre).length≤s.size
 | ⟨id,kind,labels,name,pc,x,has,args,aZ,aP⟩=>by
  have:=pg aZ;have:=pg aP
  simp only [Sm.pre,fw,xn,List.length_append,Sm.size];omega
theorem pg : ∀ l:List Sm,(fw (Sm.dN l)).length≤Sm.aS l
 | []=>Nat.le_refl _
 | s::l=>by
  have:=KA s;have:=pg l
  simp only [Sm.dN,xn,List.length_append,Sm.aS];omega
end
theorem Q6 (seen l:List aF):(ie seen l).1.length≤seen.length+l.length:=(Gk l seen).2
theorem Ux {p:Pg} (h:p.iC) (s:St):aE Tryz.prog uU [.agg (bH p)] s (.agg [.int .i64 p.jump.1, .int .i64 p.jump.2]) s:=by
 refine aE.pure ?_ (by simp [D.bR,D.ok,fX]) rfl s
 obtain⟨oP,nq,pG⟩:=h.procs
 obtain⟨R,hR⟩ : ∃ R,p.jump=R:=⟨_,rfl⟩
 rw [hR]
 unfold Pg.jump at hR
 unfold S0
 rcases Bool.eq_false_or_eq_true (p.scope.1==0)with jb | jb
 case inr=>
  have hs:=fun s=>X1 h jb s
  simp only [jb,Bool.false_eq_true,if_false]at hR
  subst hR
  refine aE.go xF rfl fun B Q hB hQ=> ?_
  have⟨hF,hP,hY,hZ⟩:=bq
  repeat' (first
 | simp only [go_sem,hF,hP,hY,hZ]
 | (with_reducible refine CU (hs _) ?_)
 | (with_reducible refine aC hQ ?_;simp only [au,aw,Option.some.injEq,exists_eq_left',go_sem,hF,hP,hY,hZ];repeat' (first | exact Ok.out | with_reducible refine aB ?_ ?_ | (simp;done))))
 have hs:=fun s=>X0 h jb s
 have hb:=nr jb
 simp only [jb,if_true]at hR
 refine aE.go xF rfl fun B Q hB hQ=> ?_
 have⟨hF,hP,hY,hZ⟩:=bq
 repeat' (first
 | simp only [go_sem,hF,hP,hY,hZ]
 | (with_reducible refine CU (hs _) ?_)
 | (with_reducible refine aC hQ ?_;simp only [au,aw,Option.some.injEq,exists_eq_left',go_sem,hF,hP,hY,hZ];repeat' (first | exact Ok.out | with_reducible refine aB ?_ ?_ | (simp;done))))
 refine cd 2 0 (a8.ind (ι:=List Pc×Nat) (fun i=>p.procs.drop i.2=i.1∧lg 7 (qi i.1)=R) (fun i=>i.1.length)
  (fun i=> [(1, .ptr 0 0),(2, .ptr 1 0),(3, .dU (iB p) 0),(16, .slice .shared 5 (p.procs.map cb)),(17, .int .i64 (p.procs.length:Int)),(18, .int .i64 (i.2:Int))]) (fun i=>⟨[bH p,[.int .i64 0, .int .i64 0]],[]⟩) ?_ (p.procs,0) ⟨rfl,hR⟩)
 clear hR
 rintro⟨rest,k⟩ ⟨h1,hR⟩ IH
 dsimp only at h1 hR
 cases rest with
 | nil=>
  have hF:=drop_nil h1
  simp only [qi,lg]at hR
  subst hR
  repeat' (first
 | simp only [go_sem,hF,hP,hY,hZ]
 | (with_reducible refine aC hQ ?_;simp only [au,aw,Option.some.injEq,exists_eq_left',go_sem,hF,hP,hY,hZ];repeat' (first | exact Ok.out | with_reducible refine aB ?_ ?_ | (simp;done))))
 | cons f rest=>
  obtain⟨hP,g2,hF,g4⟩:=drop_cons h1
  have bl:k<4611686018427387904:=by omega
  have mZ:=List.mem_of_getElem? hP
  have DL:=fun s=>aa5 hb hP (by omega) s
  have rW:=ya (k:Int) 0 (-1) 0 f.body
  have BX:=Uu (k:Int) f
  have NM:=fun m=>wC (pr:=(k:Int)) (up:=0) (next:= -1) (loop:=0) f.body m
  have Jt:=DU h mZ
  have aa7:=A5 h mZ
  have N8:(fw (Sm.dN f.body)).length≤900000:=by
   have h1:=pg f.body
   have h2:=Pc.bV mZ
   simp only [Pc.size]at h2
   omega
  rw [← rW]at N8
  generalize hI:Sm.jG (k:Int) 0 (-1) 0 f.body=I at *
  have hIl:I.length≤900000:=by rw [← rW,List.length_map]at Jt;exact Jt
  simp only [qi, ← BX]at hR
  obtain⟨J,hJ⟩ : ∃ J,rm f.labels f.fin [] (I.map Im.pair)=J:=⟨_,rfl⟩
  rw [hJ]at hR
  have hld:=fun(m:Im) (hm:m∈I) s=>XZ h hb hP m (NM m hm) s
  repeat' (first
 | simp only [go_sem,hF,hP,hY,hZ]
 | (with_reducible refine CU (DL _) ?_)
 | (with_reducible refine aC hQ ?_;simp only [au,aw,Option.some.injEq,exists_eq_left',go_sem,hF,hP,hY,hZ];repeat' (first | exact Ok.out | with_reducible refine aB ?_ ?_ | (simp;done))))
  refine a8.jB 6 1 rfl ?_
  simp only [go_sem,hF,hP,hY,hZ]
  refine cd 3 1 (a8.ind (ι:=List Im×Nat×List aF×Nat) (fun i=>I.drop i.2.1=i.1∧rm f.labels f.fin i.2.2.1 (i.1.map Im.pair)=J∧i.2.2.2=i.2.2.1.length∧i.2.2.1.length+(fw (i.1.map Im.s)).length≤900000) (fun i=>i.1.length)
   (fun i=> [(1, .ptr 0 0),(2, .ptr 1 0),(3, .dU (iB p) 0),(5, .ptr 2 0),(6, .slice (.tok 0) 1 (i.2.2.1.map encStr)),(16, .slice .shared 5 (p.procs.map cb)),(17, .int .i64 (p.procs.length:Int)),(18, .int .i64 (k:Int)),
    (25, .slice .shared 17 (I.map fu)),(26, .int .i64 (I.length:Int)),(27, .int .i64 (i.2.1:Int))]) (fun i=>⟨[bH p,[.int .i64 0, .int .i64 0],cb f],[some i.2.2.2]⟩) ?_ (I,0,[],0) ⟨rfl,hJ,rfl,by simpa using N8⟩)
  clear hJ
  rintro⟨jI,k2,seen,n2⟩ ⟨j1,j2,j3,j4⟩ p7
  dsimp only at j1 j2 j3 j4
  subst j3
  cases jI with
  | nil=>
   have CF:=drop_nil j1
   simp only [List.map_nil,rm]at j2
   simp only [List.map_nil,fw,List.length_nil,Nat.add_zero]at j4
   have Gm:=fun {s:St} {t:Nat} (ht:s.aH[t]? = some (some seen.length))=>Q4 (seen:=seen) (l:=f.fin) (by omega) ht
   obtain⟨P1,hP1⟩ : ∃ P1,ie seen f.fin=P1:=⟨_,rfl⟩
   rw [hP1]at j2 Gm
   rcases Bool.eq_false_or_eq_true P1.2 with c1 | c1
   ·simp only [c1,if_true]at j2
    subst j2
    simp only at hR
    repeat' (first
 | simp only [go_sem,hF,hP,hY,hZ,CF,c1,Bool.not_true]
 | (with_reducible refine CU (Gm (by with_unfolding_all rfl)) ?_)
 | (with_reducible refine aC hQ ?_;simp only [au,aw,Option.some.injEq,exists_eq_left',go_sem,hF,hP,hY,hZ];repeat' (first | exact Ok.out | with_reducible refine aB ?_ ?_ | (simp;done))))
    refine ct 2 0 ?_ ?_ (IH (rest,k+1) ⟨g2,hR⟩ (Nat.lt_succ_self _))
    ·(simp only [go_sem,hF,hP,hY,hZ,az bl];try exact aU)
    ·(simp only [go_sem,hF,hP,hY,hZ,az bl];try exact aU)
   ·simp only [c1,Bool.false_eq_true,if_false]at j2
    subst j2
    simp only [lg]at hR
    subst hR
    repeat' (first
 | simp only [go_sem,hF,hP,hY,hZ,CF,c1,Bool.not_false]
 | (with_reducible refine CU (Gm (by with_unfolding_all rfl)) ?_)
 | (with_reducible refine aC hQ ?_;simp only [au,aw,Option.some.injEq,exists_eq_left',go_sem,hF,hP,hY,hZ];repeat' (first | exact Ok.out | with_reducible refine aB ?_ ?_ | (simp;done))))
  | cons m jI=>
   obtain⟨e7,j5,hO,j6⟩:=drop_cons j1
   have fA:k2<4611686018427387904:=by omega
   have hmm:=List.mem_of_getElem? e7
   have K9:=fun s=>hld m hmm s
   simp only [List.map_cons,Im.pair,rm]at j2
   simp only [List.map_cons,fw,List.length_append]at j4
   have Gm:=fun {s:St} {t:Nat} (ht:s.aH[t]? = some (some seen.length))=>Q4 (seen:=seen) (l:=m.s.labels) (by omega) ht
   have BS:=Q6 seen m.s.labels
   obtain⟨P1,hP1⟩ : ∃ P1,ie seen m.s.labels=P1:=⟨_,rfl⟩
   rw [hP1]at j2 Gm BS
   rcases Bool.eq_false_or_eq_true P1.2 with c1 | c1
   ·rcases Bool.eq_false_or_eq_true (ur f.labels m.s m.loop)with c2 | c2
    ·simp only [c1,c2,if_true]at j2
     repeat' (first
 | simp only [go_sem,hF,hP,hY,hZ,e7,hO,c1,c2,Bool.not_true]
 | (with_reducible refine CU (Gm (by with_unfolding_all rfl)) ?_)
 | (with_reducible refine CU (K9 _) ?_)
 | (with_reducible refine aC hQ ?_;simp only [au,aw,Option.some.injEq,exists_eq_left',go_sem,hF,hP,hY,hZ];repeat' (first | exact Ok.out | with_reducible refine aB ?_ ?_ | (simp;done))))
     refine ct 3 1 ?_ ?_ (p7 (jI,k2+1,P1.1,P1.1.length) ⟨j5,j2,rfl,by dsimp only;omega⟩ (Nat.lt_succ_self _))
     ·(simp only [go_sem,hF,hP,hY,hZ,az fA];try exact aU)
     ·(simp only [go_sem,hF,hP,hY,hZ,az fA];try exact aU)
    ·simp only [c1,c2,if_true,Bool.false_eq_true,if_false]at j2
     subst j2
     simp only [lg]at hR
     subst hR
     repeat' (first
 | simp only [go_sem,hF,hP,hY,hZ,e7,hO,c1,c2,Bool.not_true,Bool.not_false]
 | (with_reducible refine CU (Gm (by with_unfolding_all rfl)) ?_)
 | (with_reducible refine CU (K9 _) ?_)
 | (with_reducible refine aC hQ ?_;simp only [au,aw,Option.some.injEq,exists_eq_left',go_sem,hF,hP,hY,hZ];repeat' (first | exact Ok.out | with_reducible refine aB ?_ ?_ | (simp;done))))
   ·simp only [c1,Bool.false_eq_true,if_false]at j2
    subst j2
    simp only [lg]at hR
    subst hR
    repeat' (first
 | simp only [go_sem,hF,hP,hY,hZ,e7,hO,c1,Bool.not_false]
 | (with_reducible refine CU (Gm (by with_unfolding_all rfl)) ?_)
 | (with_reducible refine CU (K9 _) ?_)
 | (with_reducible refine aC hQ ?_;simp only [au,aw,Option.some.injEq,exists_eq_left',go_sem,hF,hP,hY,hZ];repeat' (first | exact Ok.out | with_reducible refine aB ?_ ?_ | (simp;done))))
end Go.Abs

/-! Rj1 -/

namespace Go.Abs
set_option maxRecDepth 8000
open Go.Proofs
theorem Uz (x:It):(ej x)[2]? = some (.slice .shared 1 (x.s.labels.map encStr)):=nd rfl
theorem Q7 (x:It):(ej x)[14]? = some (.int .i64 x.bo):=nd rfl
attribute [go_sem] Uz Q7
theorem UA {l:List It} (hl:l.length≤1000000) (id:Int) (s:St):aE Tryz.prog tf [.slice .shared 16 (l.map ej), .int .i64 id] s (.tuple [.int .i64 (ig l l.length id), .bool (ig l l.length id != 0)]) s:=by
 refine aE.pure ?_ (by simp [D.bR,D.ok,Tag.ok,Bn]) rfl s
 obtain⟨R,hR⟩ : ∃ R,ig l l.length id=R:=⟨_,rfl⟩
 rw [hR]
 have w0:IntKind.wrap .i64 ((l.length:Int) - 1)=(l.length:Int) - 1:=by rw [dc] <;> omega
 unfold S0
 refine aE.go Dk rfl fun B Q hB hQ=> ?_
 have⟨hF,hP,hY,hZ⟩:=bq
 repeat' (first
 | simp only [go_sem,hF,hP,hY,hZ,w0]
 | (with_reducible first | refine bK fun hc=> ?_ | refine bL fun hc=> ?_ | refine bM (fun hc=> ?_) fun hc=> ?_) <;> (try simp only [hc,bs, ↓reduceIte]at h) <;> try simp only [hc]
 | (with_reducible refine aC hQ ?_;simp only [au,aw,bu,bw,go_sem,hF,hP,hY,hZ,w0];repeat' (first | exact Ok.out | with_reducible refine aB ?_ ?_ | (simp;done))))
 refine cd 0 0 (a8.ind (ι:=Nat×Int) (fun i=>i.1≤l.length∧i.2=(i.1:Int) - 1∧ig l i.1 id=R) (fun i=>i.1)
  (fun i=> [(0, .slice .shared 16 (l.map ej)),(1, .int .i64 id),(6, .int .i64 i.2)]) (fun i=>⟨[],[]⟩) ?_ (l.length,(l.length:Int) - 1) ⟨Nat.le_refl _,rfl,hR⟩)
 clear hR
 rintro⟨n,j⟩ ⟨h1,h2,hR⟩ IH
 dsimp only at h1 h2 hR
 cases n with
 | zero=>
  have eK:decide (j≥0)=false:=by simp;omega
  simp only [ig]at hR
  subst hR
  have w1:((0:Int) != 0)=false:=rfl
  repeat' (first
 | simp only [go_sem,hF,hP,hY,hZ,eK,w1]
 | (with_reducible first | refine bK fun hc=> ?_ | refine bL fun hc=> ?_ | refine bM (fun hc=> ?_) fun hc=> ?_) <;> (try simp only [hc,bs, ↓reduceIte]at h) <;> try simp only [hc]
 | (with_reducible refine aC hQ ?_;simp only [au,aw,bu,bw,go_sem,hF,hP,hY,hZ,eK,w1];repeat' (first | exact Ok.out | with_reducible refine aB ?_ ?_ | (simp;done))))
 | succ n=>
  have hj:j=(n:Int):=by omega
  subst hj
  have eK:decide ((n:Int)≥0)=true:=by simp
  obtain⟨x,hx⟩ : ∃ x,l[n]? = some x:=⟨_,List.getElem?_eq_getElem (by omega)⟩
  have wn:IntKind.wrap .i64 ((n:Int) - 1)=(n:Int) - 1:=by rw [dc] <;> omega
  simp only [ig,hx]at hR
  have b0:(x.s.id != id) = !(x.s.id==id):=rfl
  rcases Bool.eq_false_or_eq_true (x.s.id==id)with c1 | c1
  case inr=>
   rw [c1]at b0
   simp only [b0,Bool.not_false,if_true]at hR
   repeat' (first
 | simp only [go_sem,hF,hP,hY,hZ,decide_true,eK,hx,b0,wn,Bool.not_false]
 | (with_reducible refine aC hQ ?_;simp only [au,aw,bu,bw,go_sem,hF,hP,hY,hZ];repeat' (first | exact Ok.out | with_reducible refine aB ?_ ?_ | (simp;done))))
   refine cd 0 0 (IH (n,(n:Int) - 1) ⟨by dsimp only;omega,rfl,hR⟩ (Nat.lt_succ_self _))
  rw [c1]at b0
  simp only [b0,Bool.not_true,Bool.false_eq_true,if_false]at hR
  obtain⟨U,hU⟩ : ∃ U,rl l n x.bo=U:=⟨_,rfl⟩
  rw [hU]at hR
  repeat' (first
 | simp only [go_sem,hF,hP,hY,hZ,decide_true,eK,hx,b0,wn,Bool.not_true]
 | (with_reducible refine aC hQ ?_;simp only [au,aw,bu,bw,go_sem,hF,hP,hY,hZ];repeat' (first | exact Ok.out | with_reducible refine aB ?_ ?_ | (simp;done))))
  refine cd 0 0 (a8.ind (ι:=Nat×Int×Int) (fun i=>i.1≤n∧i.2.1=(i.1:Int) - 1∧rl l i.1 i.2.2=U) (fun i=>i.1)
   (fun i=> [(0, .slice .shared 16 (l.map ej)),(1, .int .i64 id),(6, .int .i64 (n:Int)),(7, .int .i64 i.2.2),(8, .int .i64 i.2.1)]) (fun i=>⟨[],[]⟩) ?_ (n,(n:Int) - 1,x.bo) ⟨Nat.le_refl _,rfl,hU⟩)
  clear hU
  rintro⟨m,k,bo⟩ ⟨j1,j2,hU⟩ p7
  dsimp only at j1 j2 hU
  have Eg:U=0→ig l n id=R:=fun e=>by rw [e]at hR;simpa using hR
  cases m with
  | zero=>
   have A6:decide (k≥0)=false:=by simp;omega
   have K1:=Eg (by simpa [rl]using hU.symm)
   repeat' (first
 | simp only [go_sem,hF,hP,hY,hZ,A6,wn]
 | (with_reducible refine aC hQ ?_;simp only [au,aw,bu,bw,go_sem,hF,hP,hY,hZ];repeat' (first | exact Ok.out | with_reducible refine aB ?_ ?_ | (simp;done))))
   refine cd 0 0 (IH (n,(n:Int) - 1) ⟨by dsimp only;omega,rfl,K1⟩ (Nat.lt_succ_self _))
  | succ m=>
   have hk:k=(m:Int):=by omega
   subst hk
   have A6:decide ((m:Int)≥0)=true:=by simp
   obtain⟨y,hy⟩ : ∃ y,l[m]? = some y:=⟨_,List.getElem?_eq_getElem (by omega)⟩
   have wm:IntKind.wrap .i64 ((m:Int) - 1)=(m:Int) - 1:=by rw [dc] <;> omega
   simp only [rl,hy]at hU
   have d0:(bo != 0) = !(bo==0):=rfl
   rcases Bool.eq_false_or_eq_true (bo==0)with e1 | e1
   ·rw [e1]at d0
    simp only [e1,if_true]at hU
    have K1:=Eg hU.symm
    repeat' (first
 | simp only [go_sem,hF,hP,hY,hZ,decide_true,A6,d0,Bool.not_true,wn]
 | (with_reducible refine aC hQ ?_;simp only [au,aw,bu,bw,go_sem,hF,hP,hY,hZ];repeat' (first | exact Ok.out | with_reducible refine aB ?_ ?_ | (simp;done))))
    refine cd 0 0 (IH (n,(n:Int) - 1) ⟨by dsimp only;omega,rfl,K1⟩ (Nat.lt_succ_self _))
   rw [e1]at d0
   simp only [e1,Bool.false_eq_true,if_false]at hU
   have d1:(y.s.id != bo) = !(y.s.id==bo):=rfl
   rcases Bool.eq_false_or_eq_true (y.s.id==bo)with e2 | e2
   case inr=>
    rw [e2]at d1
    simp only [d1,Bool.not_false,if_true]at hU
    repeat' (first
 | simp only [go_sem,hF,hP,hY,hZ,decide_true,A6,d0,hy,d1,wm,Bool.not_false]
 | (with_reducible first | refine bK fun hc=> ?_ | refine bL fun hc=> ?_ | refine bM (fun hc=> ?_) fun hc=> ?_) <;> (try simp only [hc,bs, ↓reduceIte]at h) <;> try simp only [hc]
 | (with_reducible refine aC hQ ?_;simp only [au,aw,bu,bw,go_sem,hF,hP,hY,hZ,decide_true,A6,d0,hy,d1,wm,Bool.not_false];repeat' (first | exact Ok.out | with_reducible refine aB ?_ ?_ | (simp;done))))
    refine cd 0 0 (p7 (m,(m:Int) - 1,bo) ⟨by dsimp only;omega,rfl,hU⟩ (Nat.lt_succ_self _))
   rw [e2]at d1
   simp only [d1,Bool.not_true,Bool.false_eq_true,if_false]at hU
   rcases Bool.eq_false_or_eq_true (y.s.kind==6)with e3 | e3
   ·simp only [e3,if_true]at hU
    subst hU
    simp only [d0,Bool.not_false,if_true]at hR
    subst hR
    repeat' (first
 | simp only [go_sem,hF,hP,hY,hZ,decide_true,A6,d0,hy,d1,e3,Bool.not_false,Bool.not_true]
 | (with_reducible first | refine bK fun hc=> ?_ | refine bL fun hc=> ?_ | refine bM (fun hc=> ?_) fun hc=> ?_) <;> (try simp only [hc,bs, ↓reduceIte]at h) <;> try simp only [hc]
 | (with_reducible refine aC hQ ?_;simp only [au,aw,bu,bw,go_sem,hF,hP,hY,hZ,decide_true,A6,d0,hy,d1,e3,Bool.not_false,Bool.not_true];repeat' (first | exact Ok.out | with_reducible refine aB ?_ ?_ | (simp;done))))
   ·simp only [e3,Bool.false_eq_true,if_false]at hU
    repeat' (first
 | simp only [go_sem,hF,hP,hY,hZ,decide_true,A6,d0,hy,d1,e3,wm,Bool.not_false,Bool.not_true]
 | (with_reducible refine aC hQ ?_;simp only [au,aw,bu,bw,go_sem,hF,hP,hY,hZ];repeat' (first | exact Ok.out | with_reducible refine aB ?_ ?_ | (simp;done))))
    refine cd 0 0 (p7 (m,(m:Int) - 1,y.bo) ⟨by dsimp only;omega,rfl,hU⟩ (Nat.lt_succ_self _))
theorem Q8 {f:Pc} (hs:Sm.aS f.body<4611686018427387000) (hl:(fw (f.flat.map It.s)).length+f.fin.length≤10000000) (s:St) :
 aE Tryz.prog tg [.agg (cb f)] s (.slice .shared 1 ((fw (f.flat.map It.s)++f.fin).map encStr)) s:=by
 refine aE.pure ?_ (by simp [D.bR,D.ok,rM]) (by simp only [D.ok,Tag.ok,dJ];rfl) s
 have jK:=fun s=>x3 (f:=f) hs s
 have apl:=Pc.qn f
 obtain⟨R,hR⟩ : ∃ R,fw (f.flat.map It.s)=R:=⟨_,rfl⟩
 rw [hR]at hl ⊢
 unfold S0
 refine aE.go Dl rfl fun B Q hB hQ=> ?_
 have⟨hF,hP,hY,hZ⟩:=bq
 repeat' (first
 | simp only [go_sem,hF,hP,hY,hZ]
 | (with_reducible refine CU (jK _) ?_)
 | (with_reducible refine aC hQ ?_;simp only [au,aw,Option.some.injEq,exists_eq_left',go_sem,hF,hP,hY,hZ];repeat' (first | exact Ok.out | with_reducible refine aB ?_ ?_ | (simp;done))))
 refine a8.jB 3 1 rfl ?_
 simp only [go_sem,hF,hP,hY,hZ]
 refine cd 1 1 (a8.ind (ι:=List It×Nat×List aF×Nat) (fun i=>f.flat.drop i.2.1=i.1∧i.2.2.1++fw (i.1.map It.s)=R∧i.2.2.2=i.2.2.1.length) (fun i=>i.1.length)
  (fun i=> [(1, .ptr 0 0),(3, .slice (.tok 0) 1 (i.2.2.1.map encStr)),(7, .slice .shared 16 (f.flat.map ej)),(8, .int .i64 (f.flat.length:Int)),(9, .int .i64 (i.2.1:Int))]) (fun i=>⟨[cb f],[some i.2.2.2]⟩) ?_ (f.flat,0,[],0) ⟨rfl,hR,rfl⟩)
 clear hR
 rintro⟨rest,k,out,n⟩ ⟨h1,h2,h3⟩ IH
 dsimp only at h1 h2 h3
 subst h3
 have hlen:=congrArg List.length h2
 rw [List.length_append]at hlen
 cases rest with
 | nil=>
  have hF:=drop_nil h1
  simp only [List.map_nil,fw,List.append_nil]at h2
  subst h2
  have dh:=fc (l:=out) (nx:=f.fin) rfl (by omega) (g:= .shared)
  repeat' (first
 | simp only [go_sem,hF,hP,hY,hZ,dh]
 | (with_reducible refine aC hQ ?_;simp only [au,aw,Option.some.injEq,exists_eq_left',go_sem,hF,hP,hY,hZ];repeat' (first | exact Ok.out | with_reducible refine aB ?_ ?_ | (simp;done))))
 | cons a rest=>
  obtain⟨hP,g2,hF,g4⟩:=drop_cons h1
  have bl:k<4611686018427387904:=by omega
  simp only [List.map_cons,fw]at h2
  simp only [List.map_cons,fw,List.length_append]at hlen
  have dh:=fc (l:=out) (nx:=a.s.labels) rfl (by omega) (g:= .shared)
  repeat' (first
 | simp only [go_sem,hF,hP,hY,hZ,dh]
 | (with_reducible refine aC hQ ?_;simp only [au,aw,Option.some.injEq,exists_eq_left',go_sem,hF,hP,hY,hZ];repeat' (first | exact Ok.out | with_reducible refine aB ?_ ?_ | (simp;done))))
  refine ct 1 1 ?_ ?_ (IH (rest,k+1,out++a.s.labels,out.length+a.s.labels.length) ⟨g2,by rw [← h2];simp,by simp⟩ (Nat.lt_succ_self _))
  ·(simp only [go_sem,hF,hP,hY,hZ,az bl];try exact aU)
  ·(simp only [go_sem,hF,hP,hY,hZ,az bl];try exact aU)
end Go.Abs

/-! Rj2 -/

namespace Go.Abs
set_option maxRecDepth 8000
open Go.Proofs
theorem Oa {p:Pg} (hb:p.may=true) {f:Pc} (hf:f∈p.procs):f.sy=f.flat.map fun x=>(x.s,ig f.flat f.flat.length x.s.id):=by
 obtain⟨h1,h2⟩:=Kz hb hf
 apply List.ext_getElem?
 intro i
 rw [List.getElem?_map]
 cases e:f.flat[i]? with
 | some a=>rw [h2 i a e];rfl
 | none=>
  have:=List.getElem?_eq_none_iff.1 e
  rw [List.getElem?_eq_none_iff.2 (by omega)];rfl
theorem UB {p:Pg} (h:p.iC) (hb:p.may=true) (s:St):aE Tryz.prog uY [.agg (bH p)] s (.agg [.int .i64 (lg 7 (qi p.procs)).1, .int .i64 (lg 7 (qi p.procs)).2]) s:=by
 refine aE.pure ?_ (by simp [D.bR,D.ok,fX]) rfl s
 obtain⟨oP,nq,pG⟩:=h.procs
 obtain⟨R,hR⟩ : ∃ R,lg 7 (qi p.procs)=R:=⟨_,rfl⟩
 rw [hR]
 unfold S0
 refine aE.go EH rfl fun B Q hB hQ=> ?_
 have⟨hF,hP,hY,hZ⟩:=bq
 repeat' (first
 | simp only [go_sem,hF,hP,hY,hZ]
 | (with_reducible refine aC hQ ?_;simp only [au,aw,Option.some.injEq,exists_eq_left',go_sem,hF,hP,hY,hZ];repeat' (first | exact Ok.out | with_reducible refine aB ?_ ?_ | (simp;done))))
 refine cd 2 0 (a8.ind (ι:=List Pc×Nat) (fun i=>p.procs.drop i.2=i.1∧lg 7 (qi i.1)=R) (fun i=>i.1.length)
  (fun i=> [(1, .ptr 0 0),(2, .ptr 1 0),(13, .slice .shared 5 (p.procs.map cb)),(14, .int .i64 (p.procs.length:Int)),(15, .int .i64 (i.2:Int))]) (fun i=>⟨[bH p,[.int .i64 0, .int .i64 0]],[]⟩) ?_ (p.procs,0) ⟨rfl,hR⟩)
 clear hR
 rintro⟨rest,k⟩ ⟨h1,hR⟩ IH
 dsimp only at h1 hR
 cases rest with
 | nil=>
  have hF:=drop_nil h1
  simp only [qi,lg]at hR
  subst hR
  repeat' (first
 | simp only [go_sem,hF,hP,hY,hZ]
 | (with_reducible refine aC hQ ?_;simp only [au,aw,Option.some.injEq,exists_eq_left',go_sem,hF,hP,hY,hZ];repeat' (first | exact Ok.out | with_reducible refine aB ?_ ?_ | (simp;done))))
 | cons f rest=>
  obtain⟨hP,g2,hF,g4⟩:=drop_cons h1
  have bl:k<4611686018427387904:=by omega
  have mZ:=List.mem_of_getElem? hP
  have e9:Sm.aS f.body≤900000:=by have:=Pc.bV mZ;simp only [Pc.size]at this;omega
  have jK:=fun s=>x3 (f:=f) (by omega) s
  have apl:=Pc.qn f
  have aa7:=A5 h mZ
  have rW:=(pf hb).1 f mZ
  have N8:(fw (f.flat.map It.s)).length≤900000:=by rw [rW];have:=pg f.body;omega
  have Q9:=fun s=>Q8 (f:=f) (by omega) (by omega) s
  have abd:fw (f.flat.map It.s)++f.fin=f.labels:=by rw [rW];rfl
  have apm:f.labels.length<4611686018427387904:=by rw [← abd,List.length_append];omega
  rw [abd]at Q9
  have har:=fun id s=>UA (l:=f.flat) (by omega) id s
  have jW:=fun x s=>xf (l:=f.labels) apm x .shared s
  have hpp:=Oa hb mZ
  simp only [qi,hpp]at hR
  generalize hFL:f.flat=FL at *
  obtain⟨J,hJ⟩ : ∃ J,rm f.labels f.fin [] (FL.map fun x=>(x.s,ig FL FL.length x.s.id))=J:=⟨_,rfl⟩
  rw [hJ]at hR
  repeat' (first
 | simp only [go_sem,hF,hP,hY,hZ]
 | (with_reducible refine CU (jK _) ?_)
 | (with_reducible refine aC hQ ?_;simp only [au,aw,Option.some.injEq,exists_eq_left',go_sem,hF,hP,hY,hZ];repeat' (first | exact Ok.out | with_reducible refine aB ?_ ?_ | (simp;done))))
  refine a8.jB 5 1 rfl ?_
  simp only [go_sem,hF,hP,hY,hZ]
  refine cd 3 1 (a8.ind (ι:=List It×Nat×List aF×Nat) (fun i=>FL.drop i.2.1=i.1∧rm f.labels f.fin i.2.2.1 (i.1.map fun x=>(x.s,ig FL FL.length x.s.id))=J∧i.2.2.2=i.2.2.1.length∧i.2.2.1.length+(fw (i.1.map It.s)).length≤900000∧eH i.2.2.1=false) (fun i=>i.1.length)
   (fun i=> [(1, .ptr 0 0),(2, .ptr 1 0),(4, .ptr 2 0),(5, .slice (.tok 0) 1 (i.2.2.1.map encStr)),(6, .slice .shared 16 (FL.map ej)),(13, .slice .shared 5 (p.procs.map cb)),(14, .int .i64 (p.procs.length:Int)),(15, .int .i64 (k:Int)),
    (21, .slice .shared 16 (FL.map ej)),(22, .int .i64 (FL.length:Int)),(23, .int .i64 (i.2.1:Int))]) (fun i=>⟨[bH p,[.int .i64 0, .int .i64 0],cb f],[some i.2.2.2]⟩) ?_ (FL,0,[],0) ⟨rfl,hJ,rfl,by simpa using N8,rfl⟩)
  clear hJ
  rintro⟨jI,k2,seen,n2⟩ ⟨j1,j2,j3,j4,j5⟩ p7
  dsimp only at j1 j2 j3 j4 j5
  subst j3
  cases jI with
  | nil=>
   have CF:=drop_nil j1
   simp only [List.map_nil,rm]at j2
   simp only [List.map_nil,fw,List.length_nil,Nat.add_zero]at j4
   have dh:=fc (l:=seen) (nx:=f.fin) rfl (by omega) (g:= .shared)
   have oE:=fun g s=>vq (l:=seen++f.fin) (by simp;omega) g s
   simp only [List.map_append]at oE
   rw [B0 j5]at j2
   rcases Bool.eq_false_or_eq_true (eH (seen++f.fin))with c1 | c1
   ·simp only [c1,Bool.false_eq_true,if_false,if_true]at j2
    subst j2
    simp only [lg]at hR
    subst hR
    repeat' (first
 | simp only [go_sem,hF,hP,hY,hZ,CF,dh,c1]
 | (with_reducible refine CU (oE _ _) ?_)
 | (with_reducible refine CU (fO _ _ _) ?_)
 | (with_reducible refine aC hQ ?_;simp only [au,aw,Option.some.injEq,exists_eq_left',go_sem,hF,hP,hY,hZ];repeat' (first | exact Ok.out | with_reducible refine aB ?_ ?_ | (simp;done))))
   ·simp only [c1,Bool.false_eq_true,if_false,if_true]at j2
    subst j2
    simp only at hR
    repeat' (first
 | simp only [go_sem,hF,hP,hY,hZ,CF,dh,c1]
 | (with_reducible refine CU (oE _ _) ?_)
 | (with_reducible refine aC hQ ?_;simp only [au,aw,Option.some.injEq,exists_eq_left',go_sem,hF,hP,hY,hZ];repeat' (first | exact Ok.out | with_reducible refine aB ?_ ?_ | (simp;done))))
    refine ct 2 0 ?_ ?_ (IH (rest,k+1) ⟨g2,hR⟩ (Nat.lt_succ_self _))
    ·(simp only [go_sem,hF,hP,hY,hZ,az bl];try exact aU)
    ·(simp only [go_sem,hF,hP,hY,hZ,az bl];try exact aU)
  | cons m jI=>
   obtain⟨e7,j6,hO,j7⟩:=drop_cons j1
   have fA:k2<4611686018427387904:=by omega
   simp only [List.map_cons,rm]at j2
   simp only [List.map_cons,fw,List.length_append]at j4
   have dh:=fc (l:=seen) (nx:=m.s.labels) rfl (by omega) (g:= .shared)
   have oE:=fun g s=>vq (l:=seen++m.s.labels) (by simp;omega) g s
   simp only [List.map_append]at oE
   rw [B0 j5]at j2
   have Fg:=fun s=>har m.s.id s
   generalize ig FL FL.length m.s.id=lp at *
   have b0:(lp != 0) = !(lp==0):=rfl
   rcases Bool.eq_false_or_eq_true (eH (seen++m.s.labels))with c1 | c1
   ·simp only [c1,Bool.false_eq_true,if_false,if_true]at j2
    subst j2
    simp only [lg]at hR
    subst hR
    rcases Bool.eq_false_or_eq_true (m.s.kind==7)with c2 | c2
    ·have c4:(m.s.kind==10)=false:=by simp at c2 ⊢;omega
     repeat' (first
 | simp only [go_sem,hF,hP,hY,hZ,e7,hO,dh,c1,c2,c4]
 | (with_reducible refine CU (oE _ _) ?_)
 | (with_reducible refine CU (Fg _) ?_)
 | (with_reducible refine CU (fO _ _ _) ?_)
 | (with_reducible refine aC hQ ?_;simp only [au,aw,Option.some.injEq,exists_eq_left',go_sem,hF,hP,hY,hZ];repeat' (first | exact Ok.out | with_reducible refine aB ?_ ?_ | (simp;done))))
    rcases Bool.eq_false_or_eq_true (m.s.kind==8)with c3 | c3
    ·have c4:(m.s.kind==10)=false:=by simp at c3 ⊢;omega
     repeat' (first
 | simp only [go_sem,hF,hP,hY,hZ,e7,hO,dh,c1,c2,c3,c4]
 | (with_reducible refine CU (oE _ _) ?_)
 | (with_reducible refine CU (Fg _) ?_)
 | (with_reducible refine CU (fO _ _ _) ?_)
 | (with_reducible refine aC hQ ?_;simp only [au,aw,Option.some.injEq,exists_eq_left',go_sem,hF,hP,hY,hZ];repeat' (first | exact Ok.out | with_reducible refine aB ?_ ?_ | (simp;done))))
    rcases Bool.eq_false_or_eq_true (m.s.kind==10)with c4 | c4
    ·rcases Bool.eq_false_or_eq_true (dL f.labels m.s.name)with c5 | c5
     ·repeat' (first
 | simp only [go_sem,hF,hP,hY,hZ,e7,hO,dh,c1,c2,c3,c4,c5,Bool.not_true,Bool.not_false]
 | (with_reducible refine CU (oE _ _) ?_)
 | (with_reducible refine CU (Q9 _) ?_)
 | (with_reducible refine CU (jW _ _) ?_)
 | (with_reducible refine CU (fO _ _ _) ?_)
 | (with_reducible refine aC hQ ?_;simp only [au,aw,Option.some.injEq,exists_eq_left',go_sem,hF,hP,hY,hZ];repeat' (first | exact Ok.out | with_reducible refine aB ?_ ?_ | (simp;done))))
     ·repeat' (first
 | simp only [go_sem,hF,hP,hY,hZ,e7,hO,dh,c1,c2,c3,c4,c5,Bool.not_true,Bool.not_false]
 | (with_reducible refine CU (oE _ _) ?_)
 | (with_reducible refine CU (Q9 _) ?_)
 | (with_reducible refine CU (jW _ _) ?_)
 | (with_reducible refine CU (fO _ _ _) ?_)
 | (with_reducible refine aC hQ ?_;simp only [au,aw,Option.some.injEq,exists_eq_left',go_sem,hF,hP,hY,hZ];repeat' (first | exact Ok.out | with_reducible refine aB ?_ ?_ | (simp;done))))
    ·repeat' (first
 | simp only [go_sem,hF,hP,hY,hZ,e7,hO,dh,c1,c2,c3,c4]
 | (with_reducible refine CU (oE _ _) ?_)
 | (with_reducible refine CU (fO _ _ _) ?_)
 | (with_reducible refine aC hQ ?_;simp only [au,aw,Option.some.injEq,exists_eq_left',go_sem,hF,hP,hY,hZ];repeat' (first | exact Ok.out | with_reducible refine aB ?_ ?_ | (simp;done))))
   simp only [c1,Bool.false_eq_true,if_false,if_true]at j2
   have F1:ur f.labels m.s lp=true→rm f.labels f.fin (seen++m.s.labels) (jI.map fun x=>(x.s,ig FL FL.length x.s.id))=J:=fun e=>by simpa only [e,if_true]using j2
   have AG:ur f.labels m.s lp=false→R=(7,m.s.id):=fun e=>by
    simp only [e,Bool.false_eq_true,if_false]at j2
    subst j2
    simpa only [lg]using hR.symm
   have xo : ∀ e:ur f.labels m.s lp=true,_:=fun e=>p7 (jI,k2+1,seen++m.s.labels,seen.length+m.s.labels.length) ⟨j6,F1 e,by simp,by simp;omega,c1⟩ (Nat.lt_succ_self _)
   clear p7 j2 F1
   unfold ur at AG xo
   rcases Bool.eq_false_or_eq_true (m.s.kind==7)with c2 | c2
   ·have c4:(m.s.kind==10)=false:=by simp at c2 ⊢;omega
    simp only [c2,Bool.true_or,if_true]at AG xo
    rcases Bool.eq_false_or_eq_true (lp==0)with c6 | c6
    ·rw [c6]at b0
     have:=AG b0
     subst this
     repeat' (first
 | simp only [go_sem,hF,hP,hY,hZ,e7,hO,dh,c1,c2,c4,b0,Bool.not_true,Bool.not_false]
 | (with_reducible refine CU (oE _ _) ?_)
 | (with_reducible refine CU (Fg _) ?_)
 | (with_reducible refine CU (fO _ _ _) ?_)
 | (with_reducible refine aC hQ ?_;simp only [au,aw,Option.some.injEq,exists_eq_left',go_sem,hF,hP,hY,hZ];repeat' (first | exact Ok.out | with_reducible refine aB ?_ ?_ | (simp;done))))
    ·rw [c6]at b0
     have x8:=xo b0
     repeat' (first
 | simp only [go_sem,hF,hP,hY,hZ,e7,hO,dh,c1,c2,c4,b0,Bool.not_true,Bool.not_false]
 | (with_reducible refine CU (oE _ _) ?_)
 | (with_reducible refine CU (Fg _) ?_)
 | (with_reducible refine aC hQ ?_;simp only [au,aw,Option.some.injEq,exists_eq_left',go_sem,hF,hP,hY,hZ];repeat' (first | exact Ok.out | with_reducible refine aB ?_ ?_ | (simp;done))))
     refine ct 3 1 ?_ ?_ (x8)
     ·(simp only [go_sem,hF,hP,hY,hZ,az fA];try exact aU)
     ·(simp only [go_sem,hF,hP,hY,hZ,az fA];try exact aU)
   rcases Bool.eq_false_or_eq_true (m.s.kind==8)with c3 | c3
   ·have c4:(m.s.kind==10)=false:=by simp at c3 ⊢;omega
    simp only [c2,c3,Bool.or_true,if_true]at AG xo
    rcases Bool.eq_false_or_eq_true (lp==0)with c6 | c6
    ·rw [c6]at b0
     have:=AG b0
     subst this
     repeat' (first
 | simp only [go_sem,hF,hP,hY,hZ,e7,hO,dh,c1,c2,c3,c4,b0,Bool.not_true,Bool.not_false]
 | (with_reducible refine CU (oE _ _) ?_)
 | (with_reducible refine CU (Fg _) ?_)
 | (with_reducible refine CU (fO _ _ _) ?_)
 | (with_reducible refine aC hQ ?_;simp only [au,aw,Option.some.injEq,exists_eq_left',go_sem,hF,hP,hY,hZ];repeat' (first | exact Ok.out | with_reducible refine aB ?_ ?_ | (simp;done))))
    ·rw [c6]at b0
     have x8:=xo b0
     repeat' (first
 | simp only [go_sem,hF,hP,hY,hZ,e7,hO,dh,c1,c2,c3,c4,b0,Bool.not_true,Bool.not_false]
 | (with_reducible refine CU (oE _ _) ?_)
 | (with_reducible refine CU (Fg _) ?_)
 | (with_reducible refine aC hQ ?_;simp only [au,aw,Option.some.injEq,exists_eq_left',go_sem,hF,hP,hY,hZ];repeat' (first | exact Ok.out | with_reducible refine aB ?_ ?_ | (simp;done))))
     refine ct 3 1 ?_ ?_ (x8)
     ·(simp only [go_sem,hF,hP,hY,hZ,az fA];try exact aU)
     ·(simp only [go_sem,hF,hP,hY,hZ,az fA];try exact aU)
   simp only [c2,c3,Bool.or_false,Bool.false_eq_true,if_false]at AG xo
   rcases Bool.eq_false_or_eq_true (m.s.kind==10)with c4 | c4
   ·simp only [c4,if_true]at AG xo
    rcases Bool.eq_false_or_eq_true (dL f.labels m.s.name)with c5 | c5
    ·have x8:=xo c5
     repeat' (first
 | simp only [go_sem,hF,hP,hY,hZ,e7,hO,dh,c1,c2,c3,c4,c5,Bool.not_true,Bool.not_false]
 | (with_reducible refine CU (oE _ _) ?_)
 | (with_reducible refine CU (Q9 _) ?_)
 | (with_reducible refine CU (jW _ _) ?_)
 | (with_reducible refine aC hQ ?_;simp only [au,aw,Option.some.injEq,exists_eq_left',go_sem,hF,hP,hY,hZ];repeat' (first | exact Ok.out | with_reducible refine aB ?_ ?_ | (simp;done))))
     refine ct 3 1 ?_ ?_ (x8)
     ·(simp only [go_sem,hF,hP,hY,hZ,az fA];try exact aU)
     ·(simp only [go_sem,hF,hP,hY,hZ,az fA];try exact aU)
    ·have:=AG c5
     subst this
     repeat' (first
 | simp only [go_sem,hF,hP,hY,hZ,e7,hO,dh,c1,c2,c3,c4,c5,Bool.not_true,Bool.not_false]
 | (with_reducible refine CU (oE _ _) ?_)
 | (with_reducible refine CU (Q9 _) ?_)
 | (with_reducible refine CU (jW _ _) ?_)
 | (with_reducible refine CU (fO _ _ _) ?_)
 | (with_reducible refine aC hQ ?_;simp only [au,aw,Option.some.injEq,exists_eq_left',go_sem,hF,hP,hY,hZ];repeat' (first | exact Ok.out | with_reducible refine aB ?_ ?_ | (simp;done))))
   ·simp only [c4,Bool.false_eq_true,if_false]at AG xo
    have x8:=xo trivial
    repeat' (first
 | simp only [go_sem,hF,hP,hY,hZ,e7,hO,dh,c1,c2,c3,c4]
 | (with_reducible refine CU (oE _ _) ?_)
 | (with_reducible refine aC hQ ?_;simp only [au,aw,Option.some.injEq,exists_eq_left',go_sem,hF,hP,hY,hZ];repeat' (first | exact Ok.out | with_reducible refine aB ?_ ?_ | (simp;done))))
    refine ct 3 1 ?_ ?_ (x8)
    ·(simp only [go_sem,hF,hP,hY,hZ,az fA];try exact aU)
    ·(simp only [go_sem,hF,hP,hY,hZ,az fA];try exact aU)
end Go.Abs

/-! Swap0 -/

namespace Go.Abs
def B1 (a b t:aF):aF:=if t==a then b else if t==b then a else t
mutual
def Ex.swap (a b:aF):Ex→Ex
 | ⟨op,n,name,kids⟩=>⟨op,n,B1 a b name,Ex.wD a b kids⟩
def Ex.wD (a b:aF):List Ex→List Ex
 | []=> []
 | x::l=>x.swap a b::Ex.wD a b l
end
def Ar.swap (a b:aF) (x:Ar):Ar:=⟨x.ref,B1 a b x.name,x.x.swap a b⟩
mutual
def Sm.swap (a b:aF):Sm→Sm
 | ⟨id,kind,labels,name,proc,x,has,args,aZ,aP⟩=>⟨id,kind,labels.map (B1 a b),B1 a b name,B1 a b proc,x.swap a b,has,args.map (Ar.swap a b),Sm.wD a b aZ,Sm.wD a b aP⟩
def Sm.wD (a b:aF):List Sm→List Sm
 | []=> []
 | s::l=>s.swap a b::Sm.wD a b l
end
def Pm.swap (a b:aF) (x:Pm):Pm:=⟨B1 a b x.name,x.ref⟩
def Pc.swap (a b:aF) (f:Pc):Pc:=⟨B1 a b f.name,f.params.map (Pm.swap a b),f.vars.map (B1 a b),Sm.wD a b f.body,f.fin.map (B1 a b)⟩
def Pg.swap (a b:aF) (p:Pg):Pg:=⟨p.globals.map (B1 a b),p.procs.map (Pc.swap a b)⟩
end Go.Abs

/-! Swap2p -/

namespace Go.Abs
def It.swap (a b:aF) (i:It):It:=⟨i.s.swap a b,i.deep,i.bo,i.aP⟩
end Go.Abs

/-! ToP -/

namespace Go.Abs
def Wt:List Sm→List aF
 | []=> []
 | v::l=>v.said++Wt l
def aei (p:Pg):List aF→List aF
 | []=> []
 | n::l=>Wt (qa p n)++aei p l
end Go.Abs

/-! Al1 -/

namespace Go.Abs
set_option maxRecDepth 8000
open Go.Proofs
def ng (nm:aF) (T:List aF) (seen:List aF):List Ar→Bool
 | []=>true
 | a::l=>if a.ref then(if dL seen a.name || (a.name==nm || dL T a.name)then false else ng nm T (seen++ [a.name]) l)else ng nm T seen l
def Gn (T:List aF) (seen:List aF):List Ar→Bool
 | []=>true
 | a::l=>if a.ref then(if dL seen a.name || dL T a.name then false else Gn T (seen++ [a.name]) l)else Gn T seen l
def Sm.abe (v:Sm):List aF:=if v.name != []then [v.name]else []
theorem Gp {nm:aF} {T:List aF} : ∀ (l:List Ar) (seen:List aF),(∀ a∈l,a.ref=true→a.name≠ [])→
 ng nm T seen l=Gn T ((if nm != []then [nm]else [])++seen) l
 | [],seen,_=>rfl
 | a::l,seen,h=>by
  have ih:=fun seen=>Gp (nm:=nm) (T:=T) l seen fun b m=>h b (List.mem_cons_of_mem _ m)
  simp only [ng,Gn,ih]
  cases hr:a.ref with
  | false=>rfl
  | true=>
   have hn:=h a (List.mem_cons_self ..) hr
   have:dL ((if nm != []then [nm]else [])++seen) a.name=(dL seen a.name || a.name==nm):=by
    rw [Bool.eq_iff_iff,gl,Bool.or_eq_true,gl,List.mem_append,beq_iff_eq]
    cases hb:(nm != [])
    ·have:nm = []:=by simpa using hb
     subst this
     simp [hn]
    ·simp only [if_true,List.mem_singleton]
     exact Or.comm
   simp only [if_true,this,Bool.or_assoc,List.append_assoc]
theorem UD {v:Sm} (sO:v.args.length<1000000000) {T:List aF} (hT:T.length<4611686018427387904) (s:St) :
 aE Tryz.prog rN [.agg (bd v), .slice .shared 1 (T.map encStr)] s (.bool (ng v.name T [] v.args)) s:=by
 refine aE.pure ?_ (by simp [D.bR,D.ok,l9,Tag.ok,dJ]) rfl s
 generalize hR:ng v.name T [] v.args=R
 have Wu:=fun x s=>q8 hT x s
 unfold S0
 refine aE.go Cq rfl fun B Q hB hQ=> ?_
 have⟨hF,hP,hY,hZ⟩:=bq
 repeat' (first
 | simp only [go_sem,hF,hP,hY,hZ]
 | (with_reducible refine aC hQ ?_;simp only [au,aw,Option.some.injEq,exists_eq_left',go_sem,hF,hP,hY,hZ];repeat' (first | exact Ok.out | with_reducible refine aB ?_ ?_ | (simp;done))))
 refine a8.jB 5 1 rfl ?_
 simp only [go_sem,hF,hP,hY,hZ]
 refine cd 1 1 (a8.ind (ι:=List Ar×Nat×List aF×Nat) (fun i=>v.args.drop i.2.1=i.1∧ng v.name T i.2.2.1 i.1=R∧i.2.2.1.length≤i.2.1∧i.2.2.2=i.2.2.1.length) (fun i=>i.1.length)
  (fun i=> [(1, .slice .shared 1 (T.map encStr)),(2, .ptr 0 0),(5, .slice (.tok 0) 1 (i.2.2.1.map encStr)),(9, .slice .shared 6 (v.args.map dT)),(10, .int .i64 (v.args.length:Int)),(11, .int .i64 (i.2.1:Int))]) (fun i=>⟨[bd v],[some i.2.2.2]⟩) ?_ (v.args,0,[],0) ⟨rfl,hR,Nat.le_refl _,rfl⟩)
 clear hR
 rintro⟨rest,k,seen,n'⟩ ⟨h1,h2,h3,h4⟩ IH
 dsimp only at h1 h2 h3 h4
 subst h4
 cases rest with
 | nil=>
  have hF:=drop_nil h1
  simp only [ng]at h2
  subst h2
  repeat' (first
 | simp only [go_sem,hF,hP,hY,hZ]
 | (with_reducible refine aC hQ ?_;simp only [au,aw,Option.some.injEq,exists_eq_left',go_sem,hF,hP,hY,hZ];repeat' (first | exact Ok.out | with_reducible refine aB ?_ ?_ | (simp;done))))
 | cons a rest=>
  obtain⟨hP,g2,hF,g4⟩:=drop_cons h1
  have bl:k<4611686018427387904:=by omega
  have hY:(seen.length+1)*17≤bc:=by unfold bc;omega
  have oS:=fun g s=>jq (l:=seen) (by omega) a.name g s
  simp only [ng]at h2
  rcases Bool.eq_false_or_eq_true a.ref with c1 | c1
  case inr=>
   simp only [c1,Bool.false_eq_true,if_false]at h2
   repeat' (first
 | simp only [go_sem,hF,hP,hY,hZ,c1,Bool.not_false]
 | (with_reducible refine aC hQ ?_;simp only [au,aw,Option.some.injEq,exists_eq_left',go_sem,hF,hP,hY,hZ];repeat' (first | exact Ok.out | with_reducible refine aB ?_ ?_ | (simp;done))))
   refine ct 1 1 ?_ ?_ (IH (rest,k+1,seen,_) ⟨g2,h2,by dsimp only;omega,rfl⟩ (Nat.lt_succ_self _))
   ·(simp only [go_sem,hF,hP,hY,hZ,az bl];try exact aU)
   ·(simp only [go_sem,hF,hP,hY,hZ,az bl];try exact aU)
  simp only [c1,if_true]at h2
  rcases Bool.eq_false_or_eq_true (dL seen a.name)with c2 | c2
  ·simp only [c2,Bool.true_or,if_true]at h2
   subst h2
   repeat' (first
 | simp only [go_sem,hF,hP,hY,hZ,c1,c2,Bool.not_true]
 | (with_reducible refine CU (oS _ _) ?_)
 | (with_reducible refine CU (Wu _ _) ?_)
 | (with_reducible refine aC hQ ?_;simp only [au,aw,Option.some.injEq,exists_eq_left',go_sem,hF,hP,hY,hZ];repeat' (first | exact Ok.out | with_reducible refine aB ?_ ?_ | (simp;done))))
  rcases Bool.eq_false_or_eq_true (a.name==v.name)with c3 | c3
  ·simp only [c2,c3,Bool.false_or,Bool.true_or,if_true]at h2
   subst h2
   repeat' (first
 | simp only [go_sem,hF,hP,hY,hZ,c1,c2,c3,Bool.not_true]
 | (with_reducible refine CU (oS _ _) ?_)
 | (with_reducible refine CU (Wu _ _) ?_)
 | (with_reducible refine aC hQ ?_;simp only [au,aw,Option.some.injEq,exists_eq_left',go_sem,hF,hP,hY,hZ];repeat' (first | exact Ok.out | with_reducible refine aB ?_ ?_ | (simp;done))))
  rcases Bool.eq_false_or_eq_true (dL T a.name)with c4 | c4
  ·simp only [c2,c3,c4,Bool.false_or,if_true]at h2
   subst h2
   repeat' (first
 | simp only [go_sem,hF,hP,hY,hZ,c1,c2,c3,c4,Bool.not_true]
 | (with_reducible refine CU (oS _ _) ?_)
 | (with_reducible refine CU (Wu _ _) ?_)
 | (with_reducible refine aC hQ ?_;simp only [au,aw,Option.some.injEq,exists_eq_left',go_sem,hF,hP,hY,hZ];repeat' (first | exact Ok.out | with_reducible refine aB ?_ ?_ | (simp;done))))
  ·simp only [c2,c3,c4,Bool.false_or,Bool.false_eq_true,if_false]at h2
   repeat' (first
 | simp only [go_sem,hF,hP,hY,hZ,c1,c2,c3,c4,Bool.not_true]
 | (with_reducible refine CU (oS _ _) ?_)
 | (with_reducible refine CU (Wu _ _) ?_)
 | (with_reducible refine aC hQ ?_;simp only [au,aw,Option.some.injEq,exists_eq_left',go_sem,hF,hP,hY,hZ];repeat' (first | exact Ok.out | with_reducible refine aB ?_ ?_ | (simp;done))))
   refine ct 1 1 ?_ ?_ (IH (rest,k+1,seen++ [a.name],seen.length+1) ⟨g2,h2,by simp;omega,by simp⟩ (Nat.lt_succ_self _))
   ·(simp only [go_sem,hF,hP,hY,hZ,az bl,List.map_append,List.map_cons,List.map_nil,encStr];try exact aU)
   ·(simp only [go_sem,hF,hP,hY,hZ,az bl,List.map_append,List.map_cons,List.map_nil,encStr];try exact aU)
def nh (p:Pg):List Pc→List D
 | []=> []
 | f::l=> .str f.name:: .slice .shared 1 ((p.n6 f.name).map encStr)::nh p l
theorem Ra (p:Pg) : ∀ l,D.bR 0 0 (nh p l)=true
 | []=>rfl
 | f::l=>by simp only [nh,D.bR,D.ok,Tag.ok,dJ,Ra p l];rfl
theorem X2 (n m:Nat) (p:Pg) (l:List Pc):D.il n m (nh p l)=nh p l:=iG n m _ (Ra p l)
attribute [go_sem] X2
theorem Ju (p:Pg) : ∀ l m,nh p (l++m)=nh p l++nh p m
 | [],m=>rfl
 | f::l,m=>by simp only [List.cons_append,nh,Ju p l m]
theorem Jv {p:Pg} {nm:aF} {d:D} : ∀ {l:List Pc},nm∉l.map (·.name)→wI nm d (nh p l)=some (nh p l++ [.str nm,d])
 | [],_=>rfl
 | f::l,h=>by
  simp only [List.map_cons,List.mem_cons,not_or]at h
  have:(f.name==nm)=false:=by simpa using fun e=>h.1 e.symm
  simp only [nh,wI,this,Bool.false_eq_true,if_false,Jv h.2,List.cons_append]
theorem Jw {p:Pg} {nm:aF} {z:D} : ∀ {l:List Pc} {f:Pc},jr nm l=some f→yg nm z (nh p l)=some (.slice .shared 1 ((p.n6 nm).map encStr))
 | g::l,f,h=>by
  simp only [jr]at h
  simp only [nh,yg]
  split at h
  ·rename_i e
   rw [if_pos e,eq_of_beq e]
  ·rename_i e
   rw [if_neg e]
   exact Jw h
theorem X3 (l:List aF) : ∀ (s:List aF),pH s l=false→∀ a x b,l=a++x::b→x∉s++a:=by
 induction l with
 | nil=>intro s _ a x b e;cases a <;> cases e
 | cons y l ih=>
  intro s h a x b e
  simp only [pH]at h
  split at h
  ·cases h
  ·rename_i hy
   cases a with
   | nil=>cases e;simpa [← gl]using hy
   | cons z a=>
    cases e
    have:=ih (s++ [y]) h a x b rfl
    simpa using this
end Go.Abs

/-! Al2 -/

namespace Go.Abs
set_option maxRecDepth 8000
open Go.Proofs
theorem Jx {p:Pg} (h:(p.arity.1==0)=true):(p.scope.1==0)=true∧∀ v∈p.pre,(v.kind==4)=true→v.lY p=true:=by
 unfold Pg.arity at h
 split at h
 ·rename_i e
  refine⟨e,fun v hv hk=> ?_⟩
  have : ∀ l:List Sm,((gY 6 (wy p l)).1==0)=true→∀ v∈l,(v.kind==4)=true→v.lY p=true:=by
   intro l
   induction l with
   | nil=>intro _ v m;cases m
   | cons a l ih=>
    intro h v m hk
    simp only [wy]at h
    split at h
    ·cases h
    ·rename_i c
     rcases List.mem_cons.1 m with rfl | m
     ·simpa [hk]using c
     ·exact ih h v m hk
  exact this _ h v hv hk
 ·cases h
theorem Gq {p:Pg} {v:Sm} (h:v.lY p=true) : ∃ f,p.find v.proc=some f:=by
 unfold Sm.lY at h
 cases e:p.find v.proc with
 | some f=>exact⟨f,rfl⟩
 | none=>rw [e]at h;simp at h
theorem Jy : ∀ {l:List It} {n:Nat} {i:It},It.dZ n l=true→i∈l→i.s.one=true
 | j::l,n,i,h,m=>by
  simp only [It.dZ]at h
  split at h
  ·cases h
  ·rename_i c
   simp only [Bool.or_eq_true,not_or,Bool.not_eq_true',Bool.not_eq_false]at c
   rcases List.mem_cons.1 m with rfl | m
   ·exact c.2
   ·exact Jy h m
theorem X4 {p:Pg} (h:p.may=true) : ∀ v∈p.pre,v.one=true:=fun v m=>by
 rw [← (pf h).2,List.mem_map]at m
 obtain⟨i,hi,rfl⟩:=m
 exact Jy (uz h).2 hi
theorem UE {v:Sm} (h:v.one=true):Ar.dZ v.args=true:=by
 unfold Sm.one at h
 repeat' (split at h)
 all_goals first | (cases h;done) | (rename_i c;simpa using c) | skip
theorem Jz : ∀ {l:List Ar},Ar.dZ l=true→∀ a∈l,a.may=true
 | b::l,h,a,m=>by
  simp only [Ar.dZ]at h
  split at h
  ·cases h
  ·rename_i c
   rcases List.mem_cons.1 m with rfl | m
   ·simpa using c
   ·exact Jz h a m
theorem UF {v:Sm} (h:v.one=true) : ∀ a∈v.args,a.ref=true→a.name≠ []:=fun a m hr=>by
 have:=Jz (UE h) a m
 unfold Ar.may at this
 rw [if_pos hr]at this
 intro e
 rw [e]at this
 simp [isName]at this
def Sm.Bt (p:Pg) (v:Sm):Bool:=ng v.name (p.n6 v.proc) [] v.args
def JA (p:Pg):List Sm→Option Sm
 | []=>none
 | v::l=>if v.kind==4 && !(v.Bt p)then some v else JA p l
def Pg.alias (p:Pg):Int×Int:=if p.arity.1==0 then gY 8 (JA p p.pre)else(1,0)
theorem A7 {p:Pg} (h:p.iC) (nm:aF):(p.n6 nm).length<4611686018427387904:=by
 unfold Pg.n6
 cases hs:p.xm nm with
 | none=>dsimp only;decide
 | some f=>
  obtain⟨jb,hf⟩:=Gh hs
  have h1:=(CD jb hf).len
  have h2:=h.procs
  have h3:=(rZ h (gL (p.work nm)) []).2
  have h4:(gL (p.work nm)).length*1800000≤900000*1800000:=Nat.mul_le_mul_right _ (by omega)
  have h5:(gL (p.mj nm)).length≤(p.mj nm).length:=wz _ _ (ri (kU _).1) fun x m=>((kU _).2 x).1 m
  dsimp only
  unfold Pg.mj at *
  simp only [List.length_nil]at h3
  omega
theorem DW {v:Sm} (hv:v.nf):v.args.length<1000000000:=by have:=Ar.cZ v.args;have:=hv.2.2;omega
theorem Rb {p:Pg} (h:p.iC) (s:St):aE Tryz.prog s9 [.agg (bH p)] s (.agg [.int .i64 p.alias.1, .int .i64 p.alias.2]) s:=by
 refine aE.pure ?_ (by simp [D.bR,D.ok,fX]) rfl s
 obtain⟨oP,nq,pG⟩:=h.procs
 have tC:=fun s=>Je h s
 have ey:=fun s=>Dy (p:=p) (by omega) s
 have hL:=(qx p).1
 have hll:=qy p
 generalize hR:p.alias=R
 simp only [Pg.alias]at hR
 unfold S0
 have b0:(p.arity.1 != 0) = !(p.arity.1==0):=rfl
 rcases Bool.eq_false_or_eq_true (p.arity.1==0)with b1 | b1
 case inr=>
  rw [b1]at b0
  simp only [b1,Bool.false_eq_true,if_false]at hR
  subst hR
  refine aE.go vZ rfl fun B Q hB hQ=> ?_
  have⟨hF,hP,hY,hZ⟩:=bq
  repeat' (first
 | simp only [go_sem,hF,hP,hY,hZ,b0,Bool.not_false]
 | (with_reducible refine CU (tC _) ?_)
 | (with_reducible refine aC hQ ?_;simp only [au,aw,Option.some.injEq,exists_eq_left',go_sem,hF,hP,hY,hZ];repeat' (first | exact Ok.out | with_reducible refine aB ?_ ?_ | (simp;done))))
 rw [b1]at b0
 obtain⟨jb,kb⟩:=Jx b1
 have oE:=(Jk jb).2.1
 simp only [b1,if_true, ← hL]at hR
 refine aE.go vZ rfl fun B Q hB hQ=> ?_
 have⟨hF,hP,hY,hZ⟩:=bq
 repeat' (first
 | simp only [go_sem,hF,hP,hY,hZ,b0,Bool.not_true]
 | (with_reducible refine CU (tC _) ?_)
 | (with_reducible refine aC hQ ?_;simp only [au,aw,Option.some.injEq,exists_eq_left',go_sem,hF,hP,hY,hZ];repeat' (first | exact Ok.out | with_reducible refine aB ?_ ?_ | (simp;done))))
 refine ct 3 0 ?_ ?_ (a8.ind (ι:=List Pc×Nat×List Pc) (fun i=>p.procs.drop i.2.1=i.1∧p.procs=i.2.2++i.1) (fun i=>i.1.length)
  (fun i=> [(1, .ptr 0 0),(2, .ptr 1 0),(3, .gM 2),(15, .slice .shared 5 (p.procs.map cb)),(16, .int .i64 (p.procs.length:Int)),(17, .int .i64 (i.2.1:Int))]) (fun i=>⟨[bH p,[.int .i64 0, .int .i64 0],nh p i.2.2],[]⟩) ?_ (p.procs,0,[]) ⟨rfl,rfl⟩)
 ·(simp only [go_sem,hF,hP,hY,hZ,nh];try exact aU)
 ·(simp only [go_sem,hF,hP,hY,hZ,nh];try exact aU)
 rintro⟨rest,k,done⟩ ⟨h1,h2⟩ IH
 dsimp only at h1 h2
 cases rest with
 | cons a rest=>
  obtain⟨hP,g2,hF,g4⟩:=drop_cons h1
  have bl:k<4611686018427387904:=by omega
  have Yz:=fun s=>Q1 h a.name s
  have ra:a.name∉done.map (·.name):=by
   have:=X3 _ [] oE (done.map (·.name)) a.name (rest.map (·.name)) (by simp [Pg.pn,h2])
   simpa using this
  have hmp:wI a.name (.slice .shared 1 ((p.n6 a.name).map encStr)) (nh p done)=some (nh p (done++ [a])):=by
   rw [Jv ra,Ju];rfl
  repeat' (first
 | simp only [go_sem,hF,hP,hY,hZ,hmp]
 | (with_reducible refine CU (Yz _) ?_)
 | (with_reducible refine aC hQ ?_;simp only [au,aw,Option.some.injEq,exists_eq_left',go_sem,hF,hP,hY,hZ];repeat' (first | exact Ok.out | with_reducible refine aB ?_ ?_ | (simp;done))))
  refine ct 3 0 ?_ ?_ (IH (rest,k+1,done++ [a]) ⟨g2,by rw [h2];simp⟩ (Nat.lt_succ_self _))
  ·(simp only [go_sem,hF,hP,hY,hZ,az bl];try exact aU)
  ·(simp only [go_sem,hF,hP,hY,hZ,az bl];try exact aU)
 | nil=>
  have hF:=drop_nil h1
  rw [List.append_nil]at h2
  subst h2
  repeat' (first
 | simp only [go_sem,hF,hP,hY,hZ,rV]
 | (with_reducible refine CU (ey _) ?_)
 | (with_reducible refine aC hQ ?_;simp only [au,aw,Option.some.injEq,exists_eq_left',go_sem,hF,hP,hY,hZ];repeat' (first | exact Ok.out | with_reducible refine aB ?_ ?_ | (simp;done))))
  refine cd 3 0 (a8.ind (ι:=List Im×Nat) (fun i=>p.fz.L.drop i.2=i.1∧gY 8 (JA p (i.1.map Im.s))=R) (fun i=>i.1.length)
   (fun i=> [(1, .ptr 0 0),(2, .ptr 1 0),(3, .gM 2),(33, .slice .shared 17 (p.fz.L.map fu)),(34, .int .i64 (p.fz.L.length:Int)),(35, .int .i64 (i.2:Int))]) (fun i=>⟨[bH p,[.int .i64 0, .int .i64 0],nh p p.procs],[]⟩) ?_ (p.fz.L,0) ⟨rfl,hR⟩)
  clear hR
  rintro⟨rest,k⟩ ⟨h1,hR⟩ IH
  dsimp only at h1 hR
  cases rest with
  | nil=>
   have hF:=drop_nil h1
   simp only [List.map_nil,JA,gY]at hR
   subst hR
   repeat' (first
 | simp only [go_sem,hF,hP,hY,hZ]
 | (with_reducible refine aC hQ ?_;simp only [au,aw,Option.some.injEq,exists_eq_left',go_sem,hF,hP,hY,hZ];repeat' (first | exact Ok.out | with_reducible refine aB ?_ ?_ | (simp;done))))
  | cons a rest=>
   obtain⟨hP,g2,hF,g4⟩:=drop_cons h1
   have bl:k<4611686018427387904:=by omega
   have wv:a.s∈p.pre:=by rw [← hL];exact List.mem_map_of_mem (List.mem_of_getElem? hP)
   have KM:=fun s=>UD (DW (h.pre _ wv)) (A7 h a.s.proc) s
   simp only [List.map_cons,JA,Sm.Bt]at hR
   rcases Bool.eq_false_or_eq_true (a.s.kind==4)with c1 | c1
   ·obtain⟨f,hf⟩:=Gq (kb _ wv c1)
    have hmg:=fun z=>Jw (p:=p) (z:=z) hf
    rcases Bool.eq_false_or_eq_true (ng a.s.name (p.n6 a.s.proc) [] a.s.args)with c2 | c2
    ·simp only [c1,c2,Bool.not_true,Bool.and_false,Bool.false_eq_true,if_false]at hR
     repeat' (first
 | simp only [go_sem,hF,hP,hY,hZ,c1,c2,hmg]
 | (with_reducible refine CU (KM _) ?_)
 | (with_reducible refine aC hQ ?_;simp only [au,aw,Option.some.injEq,exists_eq_left',go_sem,hF,hP,hY,hZ];repeat' (first | exact Ok.out | with_reducible refine aB ?_ ?_ | (simp;done))))
     refine ct 3 0 ?_ ?_ (IH (rest,k+1) ⟨g2,hR⟩ (Nat.lt_succ_self _))
     ·(simp only [go_sem,hF,hP,hY,hZ,az bl];try exact aU)
     ·(simp only [go_sem,hF,hP,hY,hZ,az bl];try exact aU)
    ·simp only [c1,c2,Bool.not_false,Bool.and_true,if_true,gY]at hR
     subst hR
     repeat' (first
 | simp only [go_sem,hF,hP,hY,hZ,c1,c2,hmg]
 | (with_reducible refine CU (KM _) ?_)
 | (with_reducible refine aC hQ ?_;simp only [au,aw,Option.some.injEq,exists_eq_left',go_sem,hF,hP,hY,hZ];repeat' (first | exact Ok.out | with_reducible refine aB ?_ ?_ | (simp;done))))
   ·simp only [c1,Bool.false_and,Bool.false_eq_true,if_false]at hR
    repeat' (first
 | simp only [go_sem,hF,hP,hY,hZ,c1]
 | (with_reducible refine CU (KM _) ?_)
 | (with_reducible refine aC hQ ?_;simp only [au,aw,Option.some.injEq,exists_eq_left',go_sem,hF,hP,hY,hZ];repeat' (first | exact Ok.out | with_reducible refine aB ?_ ?_ | (simp;done))))
    refine ct 3 0 ?_ ?_ (IH (rest,k+1) ⟨g2,hR⟩ (Nat.lt_succ_self _))
    ·(simp only [go_sem,hF,hP,hY,hZ,az bl];try exact aU)
    ·(simp only [go_sem,hF,hP,hY,hZ,az bl];try exact aU)
end Go.Abs

/-! Al3 -/

namespace Go.Abs
set_option maxRecDepth 8000
open Go.Proofs
def Sm.vv (p:Pg) (v:Sm):Bool:=v.lY p && Gn (p.n6 v.proc) v.abe v.args
theorem JB {p:Pg} {v:Sm} (h:v.one=true):v.vv p=(v.lY p && v.Bt p):=by
 unfold Sm.vv Sm.Bt
 rw [Gp v.args [] (UF h),List.append_nil]
 rfl
theorem UG {p:Pg} {v:Sm} (h:p.iC) (jb:(p.scope.1==0)=true) (hv:v.nf) (s:St):aE Tryz.prog u6 [.agg (bH p), .agg (bd v)] s (.bool (v.vv p)) s:=by
 refine aE.pure ?_ (by simp [D.bR,D.ok,fX,l9]) rfl s
 have wu:=fun s=>DO h hv s
 have sO:=DW hv
 generalize hR:v.vv p=R
 unfold Sm.vv at hR
 unfold S0
 rcases Bool.eq_false_or_eq_true (v.lY p)with b1 | b1
 case inr=>
  simp only [b1,Bool.false_and]at hR
  subst hR
  refine aE.go xJ rfl fun B Q hB hQ=> ?_
  have⟨hF,hP,hY,hZ⟩:=bq
  repeat' (first
 | simp only [go_sem,hF,hP,hY,hZ,b1,Bool.not_false]
 | (with_reducible refine CU (wu _) ?_)
 | (with_reducible refine aC hQ ?_;simp only [au,aw,Option.some.injEq,exists_eq_left',go_sem,hF,hP,hY,hZ];repeat' (first | exact Ok.out | with_reducible refine aB ?_ ?_ | (simp;done))))
 simp only [b1,Bool.true_and]at hR
 obtain⟨f,hf⟩:=Gq b1
 have F5:=fun s=>N5 h jb hf s
 obtain⟨T,hT⟩ : ∃ T,T=p.n6 v.proc:=⟨_,rfl⟩
 have hTl:T.length<4611686018427387904:=hT ▸ A7 h v.proc
 have hTe:gL (p.mj v.proc)=T:=by
  rw [hT];unfold Pg.n6 Pg.xm;rw [if_pos jb];simp only [hf]
 rw [hTe]at F5
 rw [← hT]at hR
 have UH:=fun x g s=>xf hTl x g s
 refine aE.go xJ rfl fun B Q hB hQ=> ?_
 have⟨hF,hP,hY,hZ⟩:=bq
 have abf:=@a8.ind Tryz.prog B 52 (List Ar×Nat×List aF×Nat) ZQ (jP 0 (lO (gU Tryz.prog B 52 ZR Q) Q)) (fun i=>v.args.drop i.2.1=i.1∧Gn T i.2.2.1 i.1=R∧i.2.2.1.length≤i.2.1+1∧i.2.2.2=i.2.2.1.length) (fun i=>i.1.length)
  (fun i=> [(2, .ptr 0 0),(3, .ptr 1 0),(5, .slice (.tok 0) 1 (i.2.2.1.map encStr)),(21, .slice .shared 6 (v.args.map dT)),(22, .int .i64 (v.args.length:Int)),(23, .int .i64 (i.2.1:Int))]) (fun i=>⟨[bH p,bd v],[some i.2.2.2]⟩) (by
   clear hR
   rintro⟨rest,k,seen,n'⟩ ⟨h1,h2,h3,h4⟩ IH
   dsimp only at h1 h2 h3 h4
   subst h4
   cases rest with
   | nil=>
    have hF:=drop_nil h1
    simp only [Gn]at h2
    subst h2
    repeat' (first
 | simp only [go_sem,hF,hP,hY,hZ]
 | (with_reducible refine aC hQ ?_;simp only [au,aw,Option.some.injEq,exists_eq_left',go_sem,hF,hP,hY,hZ];repeat' (first | exact Ok.out | with_reducible refine aB ?_ ?_ | (simp;done))))
   | cons a rest=>
    obtain⟨hP,g2,hF,g4⟩:=drop_cons h1
    have bl:k<4611686018427387904:=by omega
    have hY:(seen.length+1)*17≤bc:=by unfold bc;omega
    have oS:=fun g s=>xf (l:=seen) (by omega) a.name g s
    simp only [Gn]at h2
    rcases Bool.eq_false_or_eq_true a.ref with c1 | c1
    case inr=>
     simp only [c1,Bool.false_eq_true,if_false]at h2
     repeat' (first
 | simp only [go_sem,hF,hP,hY,hZ,c1]
 | (with_reducible refine aC hQ ?_;simp only [au,aw,Option.some.injEq,exists_eq_left',go_sem,hF,hP,hY,hZ];repeat' (first | exact Ok.out | with_reducible refine aB ?_ ?_ | (simp;done))))
     refine ct 2 1 ?_ ?_ (IH (rest,k+1,seen,_) ⟨g2,h2,by dsimp only;omega,rfl⟩ (Nat.lt_succ_self _))
     ·(simp only [go_sem,hF,hP,hY,hZ,az bl];try exact aU)
     ·(simp only [go_sem,hF,hP,hY,hZ,az bl];try exact aU)
    simp only [c1,if_true]at h2
    rcases Bool.eq_false_or_eq_true (dL seen a.name)with c2 | c2
    ·simp only [c2,Bool.true_or,if_true]at h2
     subst h2
     repeat' (first
 | simp only [go_sem,hF,hP,hY,hZ,c1,c2]
 | (with_reducible refine CU (oS _ _) ?_)
 | (with_reducible refine CU (F5 _) ?_)
 | (with_reducible refine CU (UH _ _ _) ?_)
 | (with_reducible refine aC hQ ?_;simp only [au,aw,Option.some.injEq,exists_eq_left',go_sem,hF,hP,hY,hZ];repeat' (first | exact Ok.out | with_reducible refine aB ?_ ?_ | (simp;done))))
    rcases Bool.eq_false_or_eq_true (dL T a.name)with c4 | c4
    ·simp only [c2,c4,Bool.false_or,if_true]at h2
     subst h2
     repeat' (first
 | simp only [go_sem,hF,hP,hY,hZ,c1,c2,c4]
 | (with_reducible refine CU (oS _ _) ?_)
 | (with_reducible refine CU (F5 _) ?_)
 | (with_reducible refine CU (UH _ _ _) ?_)
 | (with_reducible refine aC hQ ?_;simp only [au,aw,Option.some.injEq,exists_eq_left',go_sem,hF,hP,hY,hZ];repeat' (first | exact Ok.out | with_reducible refine aB ?_ ?_ | (simp;done))))
    ·simp only [c2,c4,Bool.false_or,Bool.false_eq_true,if_false]at h2
     repeat' (first
 | simp only [go_sem,hF,hP,hY,hZ,c1,c2,c4]
 | (with_reducible refine CU (oS _ _) ?_)
 | (with_reducible refine CU (F5 _) ?_)
 | (with_reducible refine CU (UH _ _ _) ?_)
 | (with_reducible refine aC hQ ?_;simp only [au,aw,Option.some.injEq,exists_eq_left',go_sem,hF,hP,hY,hZ];repeat' (first | exact Ok.out | with_reducible refine aB ?_ ?_ | (simp;done))))
     refine ct 2 1 ?_ ?_ (IH (rest,k+1,seen++ [a.name],seen.length+1) ⟨g2,h2,by simp;omega,by simp⟩ (Nat.lt_succ_self _))
     ·(simp only [go_sem,hF,hP,hY,hZ,az bl,List.map_append,List.map_cons,List.map_nil,encStr];try exact aU)
     ·(simp only [go_sem,hF,hP,hY,hZ,az bl,List.map_append,List.map_cons,List.map_nil,encStr];repeat' (first | exact Ok.out | with_reducible refine aB ?_ ?_)))
 unfold Sm.abe at hR
 rcases Bool.eq_false_or_eq_true (v.name != [])with b2 | b2
 ·simp only [b2,if_true]at hR
  have b3:(v.name == [])=false:=by simpa using b2
  have hY:17≤bc:=by unfold bc;omega
  repeat' (first
 | simp only [go_sem,hF,hP,hY,hZ,b1,b2,b3,Bool.not_true]
 | (with_reducible refine CU (wu _) ?_)
 | (with_reducible refine aC hQ ?_;simp only [au,aw,Option.some.injEq,exists_eq_left',go_sem,hF,hP,hY,hZ];repeat' (first | exact Ok.out | with_reducible refine aB ?_ ?_ | (simp;done))))
  refine cd 2 1 (abf (v.args,0,[v.name],1) ⟨rfl,hR,Nat.le_refl _,rfl⟩)
 ·simp only [b2,Bool.false_eq_true,if_false]at hR
  have b3:(v.name == [])=true:=by simpa using b2
  repeat' (first
 | simp only [go_sem,hF,hP,hY,hZ,b1,b2,b3,Bool.not_true]
 | (with_reducible refine CU (wu _) ?_)
 | (with_reducible refine aC hQ ?_;simp only [au,aw,Option.some.injEq,exists_eq_left',go_sem,hF,hP,hY,hZ];repeat' (first | exact Ok.out | with_reducible refine aB ?_ ?_ | (simp;done))))
  refine a8.jB 5 1 rfl ?_
  simp only [go_sem,hF,hP,hY,hZ]
  refine cd 2 1 (abf (v.args,0,[],0) ⟨rfl,hR,Nat.zero_le _,rfl⟩)
def B2 (p:Pg):List Sm→Option Sm
 | []=>none
 | v::l=>if v.kind==4 && !(v.vv p)then some v else B2 p l
theorem abg {p:Pg} (h:p.iC) (jb:(p.scope.1==0)=true) (s:St):aE Tryz.prog qP [.agg (bH p)] s (.agg [.int .i64 (gY 8 (B2 p p.pre)).1, .int .i64 (gY 8 (B2 p p.pre)).2]) s:=by
 refine aE.pure ?_ (by simp [D.bR,D.ok,fX]) rfl s
 obtain⟨oP,nq,pG⟩:=h.procs
 have sO:=fun s=>NQ (p:=p) (by omega) s
 have hL:=(pf (nr jb)).2
 have hll:=(uz (nr jb)).1
 generalize hR:gY 8 (B2 p p.pre)=R
 rw [← hL]at hR
 unfold S0
 refine aE.go Bz rfl fun B Q hB hQ=> ?_
 have⟨hF,hP,hY,hZ⟩:=bq
 repeat' (first
 | simp only [go_sem,hF,hP,hY,hZ]
 | (with_reducible refine CU (sO _) ?_)
 | (with_reducible refine aC hQ ?_;simp only [au,aw,Option.some.injEq,exists_eq_left',go_sem,hF,hP,hY,hZ];repeat' (first | exact Ok.out | with_reducible refine aB ?_ ?_ | (simp;done))))
 refine cd 2 0 (a8.ind (ι:=List It×Nat) (fun i=>p.all.drop i.2=i.1∧gY 8 (B2 p (i.1.map It.s))=R) (fun i=>i.1.length)
  (fun i=> [(1, .ptr 0 0),(2, .ptr 1 0),(6, .slice .shared 16 (p.all.map ej)),(7, .int .i64 (p.all.length:Int)),(8, .int .i64 (i.2:Int))]) (fun i=>⟨[bH p,[.int .i64 0, .int .i64 0]],[]⟩) ?_ (p.all,0) ⟨rfl,hR⟩)
 clear hR
 rintro⟨rest,k⟩ ⟨h1,hR⟩ IH
 dsimp only at h1 hR
 cases rest with
 | nil=>
  have hF:=drop_nil h1
  simp only [List.map_nil,B2,gY]at hR
  subst hR
  repeat' (first
 | simp only [go_sem,hF,hP,hY,hZ]
 | (with_reducible refine aC hQ ?_;simp only [au,aw,Option.some.injEq,exists_eq_left',go_sem,hF,hP,hY,hZ];repeat' (first | exact Ok.out | with_reducible refine aB ?_ ?_ | (simp;done))))
 | cons a rest=>
  obtain⟨hP,g2,hF,g4⟩:=drop_cons h1
  have bl:k<4611686018427387904:=by omega
  have wv:a.s∈p.pre:=by rw [← hL];exact List.mem_map_of_mem (List.mem_of_getElem? hP)
  have AW:=fun s=>UG h jb (h.pre _ wv) s
  simp only [List.map_cons,B2]at hR
  rcases Bool.eq_false_or_eq_true (a.s.kind==4)with c1 | c1
  ·rcases Bool.eq_false_or_eq_true (a.s.vv p)with c2 | c2
   ·simp only [c1,c2,Bool.not_true,Bool.and_false,Bool.false_eq_true,if_false]at hR
    repeat' (first
 | simp only [go_sem,hF,hP,hY,hZ,c1,c2]
 | (with_reducible refine CU (AW _) ?_)
 | (with_reducible refine aC hQ ?_;simp only [au,aw,Option.some.injEq,exists_eq_left',go_sem,hF,hP,hY,hZ];repeat' (first | exact Ok.out | with_reducible refine aB ?_ ?_ | (simp;done))))
    refine ct 2 0 ?_ ?_ (IH (rest,k+1) ⟨g2,hR⟩ (Nat.lt_succ_self _))
    ·(simp only [go_sem,hF,hP,hY,hZ,az bl];try exact aU)
    ·(simp only [go_sem,hF,hP,hY,hZ,az bl];try exact aU)
   ·simp only [c1,c2,Bool.not_false,Bool.and_true,if_true,gY]at hR
    subst hR
    repeat' (first
 | simp only [go_sem,hF,hP,hY,hZ,c1,c2]
 | (with_reducible refine CU (AW _) ?_)
 | (with_reducible refine CU (fO _ _ _) ?_)
 | (with_reducible refine aC hQ ?_;simp only [au,aw,Option.some.injEq,exists_eq_left',go_sem,hF,hP,hY,hZ];repeat' (first | exact Ok.out | with_reducible refine aB ?_ ?_ | (simp;done))))
  ·simp only [c1,Bool.false_and,Bool.false_eq_true,if_false]at hR
   repeat' (first
 | simp only [go_sem,hF,hP,hY,hZ,c1]
 | (with_reducible refine CU (AW _) ?_)
 | (with_reducible refine aC hQ ?_;simp only [au,aw,Option.some.injEq,exists_eq_left',go_sem,hF,hP,hY,hZ];repeat' (first | exact Ok.out | with_reducible refine aB ?_ ?_ | (simp;done))))
   refine ct 2 0 ?_ ?_ (IH (rest,k+1) ⟨g2,hR⟩ (Nat.lt_succ_self _))
   ·(simp only [go_sem,hF,hP,hY,hZ,az bl];try exact aU)
   ·(simp only [go_sem,hF,hP,hY,hZ,az bl];try exact aU)
theorem X5 {p:Pg} (hm:p.may=true) (kb : ∀ v∈p.pre,(v.kind==4)=true→v.lY p=true):B2 p p.pre=JA p p.pre:=by
 have lD:=X4 hm
 generalize p.pre=l at *
 induction l with
 | nil=>rfl
 | cons v l ih=>
  simp only [B2,JA]
  rw [JB (lD v (List.mem_cons_self ..))]
  rw [ih (fun w m=>kb w (List.mem_cons_of_mem _ m)) (fun w m=>lD w (List.mem_cons_of_mem _ m))]
  cases hk:(v.kind==4)
  ·rfl
  ·rw [kb v (List.mem_cons_self ..) hk];rfl
end Go.Abs

/-! Prs3 -/

namespace Go.Abs
set_option maxRecDepth 8000
open Go.Proofs
theorem X6 {n:Nat} {l:List aF} {fJ:Int} {r:Rd} {p:List aF×Rd} (h:Rd.names n l fJ r=some p) :
 aE Tryz.prog jl [.ptr 0 0, .slice (.tok 0) 1 (l.map encStr), .int .i64 fJ] ⟨[cE r],[some l.length]⟩ (.slice (.tok 0) 1 (p.1.map encStr)) ⟨[cE p.2],[some p.1.length]⟩:=by
 refine aE.go xe rfl fun B Q hB hQ=> ?_
 have⟨hF,hP,hY,hZ⟩:=bq
 repeat' (first
 | simp only [go_sem,hF,hP,hY,hZ]
 | (with_reducible first | refine bK fun hc=> ?_ | refine bL fun hc=> ?_ | refine bM (fun hc=> ?_) fun hc=> ?_) <;> (try simp only [hc,bs, ↓reduceIte]at h) <;> try simp only [hc]
 | (with_reducible refine aC hQ ?_;simp only [au,aw,bu,bw,go_sem,hF,hP,hY,hZ];repeat' (first | exact Ok.out | with_reducible refine aB ?_ ?_ | (simp;done))))
 refine cd 1 1 (a8.ind (ι:=Nat×List aF×Rd×Nat) (fun i=>Rd.names i.1 i.2.1 fJ i.2.2.1=some p∧i.2.2.2=i.2.1.length) (fun i=>i.1)
  (fun i=> [(0, .ptr 0 0),(1, .slice (.tok 0) 1 (i.2.1.map encStr)),(2, .int .i64 fJ)]) (fun i=>⟨[cE i.2.2.1],[some i.2.2.2]⟩) ?_ (n,l,r,l.length) ⟨h,rfl⟩)
 rintro⟨n,l,r,k⟩ ⟨h,hk⟩ IH
 dsimp only at hk;subst hk
 cases n with
 | zero=>simp only [Rd.names]at h;cases h
 | succ n=>
  simp only [Rd.names]at h
  repeat' (first
 | simp only [go_sem,hF,hP,hY,hZ]
 | (rw [Option.bind_eq_some_iff]at h;obtain⟨_,h1,h⟩:=h;first | (with_reducible refine CU (xX h1 (by with_unfolding_all rfl)) ?_) | (obtain⟨hY,pC⟩:=oX h1;subst pC;simp only [go_sem,hF,hP,hY,hZ]) | (with_reducible refine CU (sT h1 (by with_unfolding_all rfl)) ?_) | (with_reducible refine CU (pZ h1 (by with_unfolding_all rfl)) ?_))
 | (with_reducible refine CU (kE (by with_unfolding_all rfl)) ?_)
 | (with_reducible first | refine bK fun hc=> ?_ | refine bL fun hc=> ?_ | refine bM (fun hc=> ?_) fun hc=> ?_) <;> (try simp only [hc,bs, ↓reduceIte]at h) <;> try simp only [hc]
 | (with_reducible refine aC hQ ?_;(try cases h);simp only [au,aw,bu,bw,go_sem,hF,hP,hY,hZ];repeat' (first | exact Ok.out | with_reducible refine aB ?_ ?_ | (simp;done))))
  refine cd 1 1 (IH (n,_,_,l.length+1) ⟨h,by simp⟩ (Nat.lt_succ_self _))
theorem Lj {n:Nat} {l:List aF} {fJ:Int} {r:Rd} {p:List aF×Rd} (h:Rd.names n l fJ r=some p) {s:St} {o t:Nat} (ho:s.aG[o]? = some (cE r)) (ht:s.aH[t]? = some (some l.length)) :
 aE Tryz.prog jl [.ptr o 0, .slice (.tok t) 1 (l.map encStr), .int .i64 fJ] s (.slice (.tok t) 1 (p.1.map encStr)) ⟨s.aG.set o (cE p.2),s.aH.set t (some p.1.length)⟩:=
 (X6 h).acL rfl (fS r) (fS p.2) (dJ l) (dJ p.1) ho ht
theorem JC {n:Nat} {r:Rd} {p:List aF×Rd} (h:Rd.labels n [] r=some p) {s:St} {o:Nat} (ho:s.aG[o]? = some (cE r)) :
 aE Tryz.prog mU [.ptr o 0] s (.slice .shared 1 (p.1.map encStr)) ⟨s.aG.set o (cE p.2),s.aH⟩:=by
 refine aE.kz ?_ rfl (fS r) (fS p.2) (by simp [D.ok,dJ,Tag.ok]) ho
 refine aE.go vD rfl fun B Q hB hQ=> ?_
 have⟨hF,hP,hY,hZ⟩:=bq
 repeat' (first
 | simp only [go_sem,hF,hP,hY,hZ]
 | (with_reducible first | refine bK fun hc=> ?_ | refine bL fun hc=> ?_ | refine bM (fun hc=> ?_) fun hc=> ?_) <;> (try simp only [hc,bs, ↓reduceIte]at h) <;> try simp only [hc]
 | (with_reducible refine aC hQ ?_;simp only [au,aw,bu,bw,go_sem,hF,hP,hY,hZ];repeat' (first | exact Ok.out | with_reducible refine aB ?_ ?_ | (simp;done))))
 refine a8.jB 3 1 rfl ?_
 simp only [go_sem,hF,hP,hY,hZ]
 refine cd 1 1 (a8.ind (ι:=Nat×List aF×Rd×Nat) (fun i=>Rd.labels i.1 i.2.1 i.2.2.1=some p∧i.2.2.2=i.2.1.length) (fun i=>i.1)
  (fun i=> [(0, .ptr 0 0),(3, .slice (.tok 0) 1 (i.2.1.map encStr))]) (fun i=>⟨[cE i.2.2.1],[some i.2.2.2]⟩) ?_ (n,[],r,0) ⟨h,rfl⟩)
 rintro⟨n,l,r,k⟩ ⟨h,hk⟩ IH
 dsimp only at hk;subst hk
 cases n with
 | zero=>simp only [Rd.labels]at h;cases h
 | succ n=>
  simp only [Rd.labels,Rd.ahead]at h
  repeat' (first
 | simp only [go_sem,hF,hP,hY,hZ]
 | (rw [Option.bind_eq_some_iff]at h;obtain⟨_,h1,h⟩:=h;first | (with_reducible refine CU (o7 h1 (by with_unfolding_all rfl)) ?_;have hF:=rT h1) | (obtain⟨hY,pC⟩:=oX h1;subst pC;simp only [go_sem,hF,hP,hY,hZ]) | (obtain⟨CF,hP⟩:=Aj h1;simp only [go_sem,hP,hF,hP,hY,hZ]))
 | (with_reducible refine CU (kE (by with_unfolding_all rfl)) ?_)
 | (with_reducible first | refine bK fun hc=> ?_ | refine bL fun hc=> ?_ | refine bM (fun hc=> ?_) fun hc=> ?_) <;> (try simp only [hc,bs, ↓reduceIte]at h) <;> try simp only [hc]
 | (with_reducible refine aC hQ ?_;(try cases h);simp only [au,aw,bu,bw,go_sem,hF,hP,hY,hZ];repeat' (first | exact Ok.out | with_reducible refine aB ?_ ?_ | (simp;done))))
  refine cd 1 1 (IH (n,_,_,l.length+1) ⟨h,by simp⟩ (Nat.lt_succ_self _))
end Go.Abs

/-! Prs4 -/

namespace Go.Abs
set_option maxRecDepth 8000
open Go.Proofs
theorem UI {r:Rd} {b:Bool} (h:r.IB=some b) {s:St} {o:Nat} (ho:s.aG[o]? = some (cE r)) :
 aE Tryz.prog mV [.ptr o 0] s (.bool b) ⟨s.aG.set o (cE r),s.aH⟩:=by
 refine aE.kz ?_ rfl (fS r) (fS r) rfl ho
 unfold Rd.IB at h
 refine aE.go vE rfl fun B Q hB hQ=> ?_
 have⟨hF,hP,hY,hZ⟩:=bq
 repeat' (first
 | simp only [go_sem,hF,hP,hY,hZ]
 | (rw [Option.bind_eq_some_iff]at h;obtain⟨_,h1,h⟩:=h;first | (with_reducible refine CU (o7 h1 (by with_unfolding_all rfl)) ?_))
 | (with_reducible first | refine bK fun hc=> ?_ | refine bL fun hc=> ?_ | refine bM (fun hc=> ?_) fun hc=> ?_) <;> (try simp only [hc,bs, ↓reduceIte]at h) <;> try simp only [hc]
 | (with_reducible refine aC hQ ?_;(try cases h);simp only [au,aw,bu,bw,go_sem,hF,hP,hY,hZ];repeat' (first | exact Ok.out | with_reducible refine aB ?_ ?_ | (simp;done))))
theorem abh {m:Nat} {name proc:aF} {r:Rd} {p:Sm×Rd} (h:Rd.call m name proc r=some p) {s:St} {o:Nat} (ho:s.aG[o]? = some (cE r)) :
 aE Tryz.prog lq [.ptr o 0, .str name, .str proc] s (.agg (bd p.1)) ⟨s.aG.set o (cE p.2),s.aH⟩:=by
 refine aE.kz ?_ rfl (fS r) (fS p.2) (by simp [D.ok,l9]) ho
 unfold Rd.call Rd.other at h
 refine aE.go xP rfl fun B Q hB hQ=> ?_
 have⟨hF,hP,hY,hZ⟩:=bq
 repeat' (first
 | simp only [go_sem,hF,hP,hY,hZ]
 | (rw [Option.bind_eq_some_iff]at h;obtain⟨_,h1,h⟩:=h;first | (with_reducible refine CU (pZ h1 (by with_unfolding_all rfl)) ?_) | (with_reducible refine CU (Aw h1 (by with_unfolding_all rfl)) ?_))
 | (with_reducible refine CU (kE (by with_unfolding_all rfl)) ?_)
 | (with_reducible first | refine bK fun hc=> ?_ | refine bL fun hc=> ?_ | refine bM (fun hc=> ?_) fun hc=> ?_) <;> (try simp only [hc,bs, ↓reduceIte]at h) <;> try simp only [hc]
 | (with_reducible refine aC hQ ?_;exact nX)
 | (cases h;replace h:=hr;clear hr;(try simp only [bs, ↓reduceIte]at h))
 | (cases h;done))
 rw [Option.bind_eq_some_iff]at h
 obtain⟨q,h,hr⟩:=h
 refine a8.uP 2 10 6 rfl rfl ?_
 simp only [go_sem,hF,hP,hY,hZ]
 refine cd 3 1 (a8.ind (ι:=Nat×List Ar×Rd×Nat) (fun i=>Rd.yq m i.1 i.2.1 i.2.2.1=some q∧i.2.2.2=i.2.1.length) (fun i=>i.1)
  (fun i=> [(0, .ptr 0 0),(6, .ptr 1 0),(7, .ptr 2 0)]) (fun i=>⟨[cE i.2.2.1,bd Iu,[.int .i64 0, .int .i64 4, .slice .shared 1 [], .str name, .str proc, .int .i64 0, .int .i64 0, .str [], .slice .shared 4 [], .bool false, .slice (.tok 0) 6 (i.2.1.map dT), .slice .shared 13 [], .slice .shared 13 []]],[some i.2.2.2]⟩) ?_ (m,[],_,0) ⟨h,rfl⟩)
 rintro⟨n,l,r,k⟩ ⟨h,hk⟩ IH
 dsimp only at hk;subst hk
 cases n with
 | zero=>simp only [Rd.yq]at h;cases h
 | succ n=>
  simp only [Rd.yq]at h
  repeat' (first
 | simp only [go_sem,hF,hP,hY,hZ]
 | (rw [Option.bind_eq_some_iff]at h;obtain⟨_,h1,h⟩:=h;first | (with_reducible refine CU (sT h1 (by with_unfolding_all rfl)) ?_) | (obtain⟨hY,pC⟩:=oX h1;subst pC;simp only [go_sem,hF,hP,hY,hZ]) | (with_reducible refine CU (xX h1 (by with_unfolding_all rfl)) ?_) | (with_reducible refine CU (Bm h1 (by with_unfolding_all rfl)) ?_) | (with_reducible refine CU (pZ h1 (by with_unfolding_all rfl)) ?_))
 | (with_reducible refine CU (kE (by with_unfolding_all rfl)) ?_)
 | (with_reducible first | refine bK fun hc=> ?_ | refine bL fun hc=> ?_ | refine bM (fun hc=> ?_) fun hc=> ?_) <;> (try simp only [hc,bs, ↓reduceIte]at h) <;> try simp only [hc]
 | (with_reducible refine aC hQ ?_;exact nX)
 | (cases h;replace h:=hr;clear hr;(try simp only [bs, ↓reduceIte]at h))
 | (cases h;done))
  ·refine cd 3 1 (IH (n,_,_,l.length+1) ⟨h,by simp⟩ (Nat.lt_succ_self _))
  ·refine cd 3 1 (IH (n,_,_,l.length+1) ⟨h,by simp⟩ (Nat.lt_succ_self _))
theorem UJ {m:Nat} {r:Rd} {p:Sm×Rd} (h:Rd.named m r=some p) {s:St} {o:Nat} (ho:s.aG[o]? = some (cE r)) :
 aE Tryz.prog nF [.ptr o 0] s (.agg (bd p.1)) ⟨s.aG.set o (cE p.2),s.aH⟩:=by
 refine aE.kz ?_ rfl (fS r) (fS p.2) (by simp [D.ok,l9]) ho
 unfold Rd.named Rd.ahead at h
 refine aE.go xa rfl fun B Q hB hQ=> ?_
 have⟨hF,hP,hY,hZ⟩:=bq
 repeat' (first
 | simp only [go_sem,hF,hP,hY,hZ]
 | (rw [Option.bind_eq_some_iff]at h;obtain⟨_,h1,h⟩:=h;first | (with_reducible refine CU (xX h1 (by with_unfolding_all rfl)) ?_) | (with_reducible refine CU (pZ h1 (by with_unfolding_all rfl)) ?_) | (with_reducible refine CU (Aw h1 (by with_unfolding_all rfl)) ?_) | (with_reducible refine CU (o7 h1 (by with_unfolding_all rfl)) ?_;have hF:=rT h1) | (obtain⟨CF,hP⟩:=Aj h1;simp only [go_sem,hP,hF,hP,hY,hZ]) | (with_reducible refine CU (Bm h1 (by with_unfolding_all rfl)) ?_))
 | (with_reducible refine CU (kE (by with_unfolding_all rfl)) ?_)
 | (with_reducible refine CU (abh h (by with_unfolding_all rfl)) ?_)
 | (with_reducible first | refine bK fun hc=> ?_ | refine bL fun hc=> ?_ | refine bM (fun hc=> ?_) fun hc=> ?_) <;> (try simp only [hc,bs, ↓reduceIte]at h) <;> try simp only [hc]
 | (with_reducible refine aC hQ ?_;(try cases h);simp only [au,aw,bu,bw,go_sem,hF,hP,hY,hZ];repeat' (first | exact Ok.out | with_reducible refine aB ?_ ?_ | (simp;done))))
theorem X7 {m:Nat} {word:aF} {r:Rd} {p:Sm×Rd} (h:Rd.plain m word r=some p) {s:St} {o:Nat} (ho:s.aG[o]? = some (cE r)) :
 aE Tryz.prog nG [.ptr o 0, .str word] s (.agg (bd p.1)) ⟨s.aG.set o (cE p.2),s.aH⟩:=by
 refine aE.kz ?_ rfl (fS r) (fS p.2) (by simp [D.ok,l9]) ho
 unfold Rd.plain at h
 refine aE.go xc rfl fun B Q hB hQ=> ?_
 have⟨hF,hP,hY,hZ⟩:=bq
 repeat' (first
 | simp only [go_sem,hF,hP,hY,hZ]
 | (rw [Option.bind_eq_some_iff]at h;obtain⟨_,h1,h⟩:=h;first | (with_reducible refine CU (xX h1 (by with_unfolding_all rfl)) ?_) | (with_reducible refine CU (Aw h1 (by with_unfolding_all rfl)) ?_) | (with_reducible refine CU (Bm h1 (by with_unfolding_all rfl)) ?_))
 | (with_reducible first | refine bK fun hc=> ?_ | refine bL fun hc=> ?_ | refine bM (fun hc=> ?_) fun hc=> ?_) <;> (try simp only [hc,bs, ↓reduceIte]at h) <;> try simp only [hc]
 | (with_reducible refine aC hQ ?_;(try cases h);simp only [au,aw,bu,bw,go_sem,hF,hP,hY,hZ];repeat' (first | exact Ok.out | with_reducible refine aB ?_ ?_ | (simp;done))))
theorem Rc {m:Nat} {r:Rd} {p:Ex×Rd} (h:Rd.head m r=some p) {s:St} {o:Nat} (ho:s.aG[o]? = some (cE r)) :
 aE Tryz.prog ln [.ptr o 0] s (.agg (bE p.1)) ⟨s.aG.set o (cE p.2),s.aH⟩:=by
 refine aE.kz ?_ rfl (fS r) (fS p.2) (by simp [D.ok,gN]) ho
 unfold Rd.head at h
 refine aE.go xO rfl fun B Q hB hQ=> ?_
 have⟨hF,hP,hY,hZ⟩:=bq
 repeat' (first
 | simp only [go_sem,hF,hP,hY,hZ]
 | (rw [Option.bind_eq_some_iff]at h;obtain⟨_,h1,h⟩:=h;first | (with_reducible refine CU (pZ h1 (by with_unfolding_all rfl)) ?_) | (with_reducible refine CU (Bm h1 (by with_unfolding_all rfl)) ?_))
 | (with_reducible first | refine bK fun hc=> ?_ | refine bL fun hc=> ?_ | refine bM (fun hc=> ?_) fun hc=> ?_) <;> (try simp only [hc,bs, ↓reduceIte]at h) <;> try simp only [hc]
 | (with_reducible refine aC hQ ?_;(try cases h);simp only [au,aw,bu,bw,go_sem,hF,hP,hY,hZ];repeat' (first | exact Ok.out | with_reducible refine aB ?_ ?_ | (simp;done))))
end Go.Abs

/-! Prs5 -/

namespace Go.Abs
set_option maxRecDepth 8000
open Go.Proofs
abbrev JD (m n:Nat):Prop:=∀ {nest:Int} {body:Bool} {r:Rd} {p:(List Sm×List aF)×Rd},Rd.rows m n nest body r=some p→∀ {s:St} {o:Nat},s.aG[o]? = some (cE r)→
 aE Tryz.prog gD [.ptr o 0, .int .i64 nest, .bool body] s (.tuple [.slice .shared 13 (p.1.1.map bd), .slice .shared 1 (p.1.2.map encStr)]) ⟨s.aG.set o (cE p.2),s.aH⟩
abbrev A8 (m n:Nat):Prop:=∀ {nest:Int} {r:Rd} {p:Sm×Rd},Rd.stmt m n nest r=some p→∀ {s:St} {o:Nat},s.aG[o]? = some (cE r)→
 aE Tryz.prog oh [.ptr o 0, .int .i64 nest] s (.agg (bd p.1)) ⟨s.aG.set o (cE p.2),s.aH⟩
abbrev Bu (m n:Nat):Prop:=∀ {nest:Int} {r:Rd} {p:List Sm×Rd},Rd.block m n nest r=some p→∀ {s:St} {o:Nat},s.aG[o]? = some (cE r)→
 aE Tryz.prog jm [.ptr o 0, .int .i64 nest] s (.slice .shared 13 (p.1.map bd)) ⟨s.aG.set o (cE p.2),s.aH⟩
abbrev CG (m n:Nat):Prop:=∀ {nest:Int} {r:Rd} {p:Sm×Rd},Rd.choice m n nest r=some p→∀ {s:St} {o:Nat},s.aG[o]? = some (cE r)→
 aE Tryz.prog mW [.ptr o 0, .int .i64 nest] s (.agg (bd p.1)) ⟨s.aG.set o (cE p.2),s.aH⟩
theorem KB {m n:Nat} (Fi:Bu m n):CG m (n+1):=by
 intro nest r p h s o ho
 refine aE.kz ?_ rfl (fS r) (fS p.2) (by simp [D.ok,l9]) ho
 unfold Rd.choice at h
 refine aE.go vF rfl fun B Q hB hQ=> ?_
 have⟨hF,hP,hY,hZ⟩:=bq
 repeat' (first
 | simp only [go_sem,hF,hP,hY,hZ]
 | (rw [Option.bind_eq_some_iff]at h;obtain⟨_,h1,h⟩:=h;first | (with_reducible refine CU (Rc h1 (by with_unfolding_all rfl)) ?_) | (with_reducible refine CU (Fi h1 (by with_unfolding_all rfl)) ?_) | (with_reducible refine CU (sT h1 (by with_unfolding_all rfl)) ?_))
 | (with_reducible first | refine bK fun hc=> ?_ | refine bL fun hc=> ?_ | refine bM (fun hc=> ?_) fun hc=> ?_) <;> (try simp only [hc,bs, ↓reduceIte]at h) <;> try simp only [hc]
 | (with_reducible refine aC hQ ?_;(try cases h);simp only [au,aw,bu,bw,go_sem,hF,hP,hY,hZ];repeat' (first | exact Ok.out | with_reducible refine aB ?_ ?_ | (simp;done))))
theorem Oc {m n:Nat} (JE:JD m n):Bu m (n+1):=by
 intro nest r p h s o ho
 refine aE.kz ?_ rfl (fS r) (fS p.2) (by simp [D.ok,mF,Tag.ok]) ho
 unfold Rd.block at h
 refine aE.go xb rfl fun B Q hB hQ=> ?_
 have⟨hF,hP,hY,hZ⟩:=bq
 repeat' (first
 | simp only [go_sem,hF,hP,hY,hZ]
 | (rw [Option.bind_eq_some_iff]at h;obtain⟨_,h1,h⟩:=h;first | (with_reducible refine CU (pZ h1 (by with_unfolding_all rfl)) ?_) | (obtain⟨hZ,hik⟩:=P8 h1;subst hik;simp only [go_sem,hZ,hF,hP,hY,hZ]) | (with_reducible refine CU (JE h1 (by with_unfolding_all rfl)) ?_))
 | (with_reducible first | refine bK fun hc=> ?_ | refine bL fun hc=> ?_ | refine bM (fun hc=> ?_) fun hc=> ?_) <;> (try simp only [hc,bs, ↓reduceIte]at h) <;> try simp only [hc]
 | (with_reducible refine aC hQ ?_;(try cases h);simp only [au,aw,bu,bw,go_sem,hF,hP,hY,hZ];repeat' (first | exact Ok.out | with_reducible refine aB ?_ ?_ | (simp;done))))
theorem Re {m n:Nat} (Fi:Bu m n) (UK:CG m n):A8 m (n+1):=by
 intro nest r p h s o ho
 refine aE.kz ?_ rfl (fS r) (fS p.2) (by simp [D.ok,l9]) ho
 unfold Rd.stmt at h
 refine aE.go xN rfl fun B Q hB hQ=> ?_
 have⟨hF,hP,hY,hZ⟩:=bq
 repeat' (first
 | simp only [go_sem,hF,hP,hY,hZ]
 | (rw [Option.bind_eq_some_iff]at h;obtain⟨_,h1,h⟩:=h;first | (with_reducible refine CU (UI h1 (by with_unfolding_all rfl)) ?_) | (obtain⟨hZ,hik⟩:=Tk h1;subst hik;simp only [go_sem,hZ,hF,hP,hY,hZ]) | (with_reducible refine CU (o7 h1 (by with_unfolding_all rfl)) ?_;have hF:=rT h1) | (with_reducible refine CU (Rc h1 (by with_unfolding_all rfl)) ?_) | (with_reducible refine CU (Fi h1 (by with_unfolding_all rfl)) ?_) | (with_reducible refine CU (X7 h1 (by with_unfolding_all rfl)) ?_) | (with_reducible refine CU (pZ h1 (by with_unfolding_all rfl)) ?_) | (with_reducible refine CU (Dv h1 (by with_unfolding_all rfl)) ?_))
 | (with_reducible refine CU (UK h (by with_unfolding_all rfl)) ?_)
 | (with_reducible refine CU (UJ h (by with_unfolding_all rfl)) ?_)
 | (with_reducible first | refine bK fun hc=> ?_ | refine bL fun hc=> ?_ | refine bM (fun hc=> ?_) fun hc=> ?_) <;> (try simp only [hc,bs, ↓reduceIte]at h) <;> try simp only [hc]
 | (with_reducible refine aC hQ ?_;(try cases h);simp only [au,aw,bu,bw,go_sem,hF,hP,hY,hZ];repeat' (first | exact Ok.out | with_reducible refine aB ?_ ?_ | (simp;done))))
theorem Rf {m n:Nat} (yc : ∀ j<n,A8 m j) {nest:Int} {r:Rd} {p:(List Sm×List aF)×Rd} (h:Rd.rows m (n+1) nest true r=some p) :
 aE Tryz.prog gD [.ptr 0 0, .int .i64 nest, .bool true] ⟨[cE r],[]⟩ (.tuple [.slice .shared 13 (p.1.1.map bd), .slice .shared 1 (p.1.2.map encStr)]) ⟨[cE p.2],[]⟩:=by
 unfold Rd.rows at h
 refine aE.go qw rfl fun B Q hB hQ=> ?_
 have⟨hF,hP,hY,hZ⟩:=bq
 repeat' (first
 | simp only [go_sem,hF,hP,hY,hZ]
 | (with_reducible first | refine bK fun hc=> ?_ | refine bL fun hc=> ?_ | refine bM (fun hc=> ?_) fun hc=> ?_) <;> (try simp only [hc,bs, ↓reduceIte]at h) <;> try simp only [hc]
 | (with_reducible refine aC hQ ?_;simp only [au,aw,bu,bw,go_sem,hF,hP,hY,hZ];repeat' (first | exact Ok.out | with_reducible refine aB ?_ ?_ | (simp;done))))
 refine a8.jB 8 13 rfl ?_
 simp only [go_sem,hF,hP,hY,hZ]
 refine cd 1 1 (a8.ind (ι:=Nat×List Sm×Rd×Nat) (fun i=>Rd.tZ m i.1 nest true i.2.1 i.2.2.1=some p∧i.2.2.2=i.2.1.length∧i.1≤n) (fun i=>i.1)
  (fun i=> [(0, .ptr 0 0),(1, .int .i64 nest),(2, .bool true),(8, .slice (.tok 0) 13 (i.2.1.map bd))]) (fun i=>⟨[cE i.2.2.1],[some i.2.2.2]⟩) ?_ (n,[],r,0) ⟨h,rfl,Nat.le_refl _⟩)
 rintro⟨j,l,r,k⟩ ⟨h,hk,hj⟩ IH
 dsimp only at hk hj;subst hk
 cases j with
 | zero=>simp only [Rd.tZ]at h;cases h
 | succ j=>
  have JF:=@yc j (by omega)
  simp only [Rd.tZ]at h
  repeat' (first
 | simp only [go_sem,hF,hP,hY,hZ,dm]
 | (rw [Option.bind_eq_some_iff]at h;obtain⟨_,h1,h⟩:=h;first | (with_reducible refine CU (JC h1 (by with_unfolding_all rfl)) ?_) | (with_reducible refine CU (Aw h1 (by with_unfolding_all rfl)) ?_;have hF:=is_lt h1) | (obtain⟨hY,pC⟩:=oX h1;subst pC;simp only [go_sem,hF,hP,hY,hZ]) | (with_reducible refine CU (JF h1 (by with_unfolding_all rfl)) ?_))
 | (with_reducible refine CU (kE (by with_unfolding_all rfl)) ?_)
 | (with_reducible first | refine bK fun hc=> ?_ | refine bL fun hc=> ?_ | refine bM (fun hc=> ?_) fun hc=> ?_) <;> (try simp only [hc,bs, ↓reduceIte]at h) <;> try simp only [hc]
 | (with_reducible refine aC hQ ?_;(try cases h);simp only [au,aw,bu,bw,go_sem,hF,hP,hY,hZ,dm];repeat' (first | exact Ok.out | with_reducible refine aB ?_ ?_ | (simp;done))))
  ·refine ct 1 1 ?_ ?_ (IH (j,_,_,l.length+1) ⟨h,by simp,by dsimp only;omega⟩ (Nat.lt_succ_self _))
   ·(simp only [go_sem,hF,hP,hY,hZ,dm];try exact aU)
   ·(simp only [go_sem,hF,hP,hY,hZ,dm];try exact aU)
theorem Od {m n:Nat} (yc : ∀ j<n,A8 m j) {nest:Int} {r:Rd} {p:(List Sm×List aF)×Rd} (h:Rd.rows m (n+1) nest false r=some p) :
 aE Tryz.prog gD [.ptr 0 0, .int .i64 nest, .bool false] ⟨[cE r],[]⟩ (.tuple [.slice .shared 13 (p.1.1.map bd), .slice .shared 1 (p.1.2.map encStr)]) ⟨[cE p.2],[]⟩:=by
 unfold Rd.rows at h
 refine aE.go qw rfl fun B Q hB hQ=> ?_
 have⟨hF,hP,hY,hZ⟩:=bq
 repeat' (first
 | simp only [go_sem,hF,hP,hY,hZ]
 | (with_reducible first | refine bK fun hc=> ?_ | refine bL fun hc=> ?_ | refine bM (fun hc=> ?_) fun hc=> ?_) <;> (try simp only [hc,bs, ↓reduceIte]at h) <;> try simp only [hc]
 | (with_reducible refine aC hQ ?_;simp only [au,aw,bu,bw,go_sem,hF,hP,hY,hZ];repeat' (first | exact Ok.out | with_reducible refine aB ?_ ?_ | (simp;done))))
 refine a8.jB 8 13 rfl ?_
 simp only [go_sem,hF,hP,hY,hZ]
 refine cd 1 1 (a8.ind (ι:=Nat×List Sm×Rd×Nat) (fun i=>Rd.tZ m i.1 nest false i.2.1 i.2.2.1=some p∧i.2.2.2=i.2.1.length∧i.1≤n) (fun i=>i.1)
  (fun i=> [(0, .ptr 0 0),(1, .int .i64 nest),(2, .bool false),(8, .slice (.tok 0) 13 (i.2.1.map bd))]) (fun i=>⟨[cE i.2.2.1],[some i.2.2.2]⟩) ?_ (n,[],r,0) ⟨h,rfl,Nat.le_refl _⟩)
 rintro⟨j,l,r,k⟩ ⟨h,hk,hj⟩ IH
 dsimp only at hk hj;subst hk
 cases j with
 | zero=>simp only [Rd.tZ]at h;cases h
 | succ j=>
  have JF:=@yc j (by omega)
  simp only [Rd.tZ]at h
  repeat' (first
 | simp only [go_sem,hF,hP,hY,hZ,dm]
 | (rw [Option.bind_eq_some_iff]at h;obtain⟨_,h1,h⟩:=h;first | (with_reducible refine CU (JC h1 (by with_unfolding_all rfl)) ?_) | (with_reducible refine CU (Aw h1 (by with_unfolding_all rfl)) ?_;have hF:=is_lt h1) | (obtain⟨hY,pC⟩:=oX h1;subst pC;simp only [go_sem,hF,hP,hY,hZ]) | (with_reducible refine CU (JF h1 (by with_unfolding_all rfl)) ?_))
 | (with_reducible refine CU (kE (by with_unfolding_all rfl)) ?_)
 | (with_reducible first | refine bK fun hc=> ?_ | refine bL fun hc=> ?_ | refine bM (fun hc=> ?_) fun hc=> ?_) <;> (try simp only [hc,bs, ↓reduceIte]at h) <;> try simp only [hc]
 | (with_reducible refine aC hQ ?_;(try cases h);simp only [au,aw,bu,bw,go_sem,hF,hP,hY,hZ,dm];repeat' (first | exact Ok.out | with_reducible refine aB ?_ ?_ | (simp;done))))
  ·refine ct 1 1 ?_ ?_ (IH (j,_,_,l.length+1) ⟨h,by simp,by dsimp only;omega⟩ (Nat.lt_succ_self _))
   ·(simp only [go_sem,hF,hP,hY,hZ,dm];try exact aU)
   ·(simp only [go_sem,hF,hP,hY,hZ,dm];try exact aU)
  ·refine ct 1 1 ?_ ?_ (IH (j,_,_,l.length+1) ⟨h,by simp,by dsimp only;omega⟩ (Nat.lt_succ_self _))
   ·(simp only [go_sem,hF,hP,hY,hZ,dm];try exact aU)
   ·(simp only [go_sem,hF,hP,hY,hZ,dm];try exact aU)
theorem Rg {m n:Nat} (yc : ∀ j<n,A8 m j):JD m (n+1):=by
 intro nest body r p h s o ho
 refine aE.kz ?_ rfl (fS r) (fS p.2) (by simp [D.ok,D.bR,mF,dJ,Tag.ok]) ho
 cases body
 ·exact Od yc h
 ·exact Rf yc h
theorem abj (m:Nat) : ∀ n,∀ k<n,JD m k∧A8 m k∧Bu m k∧CG m k:=by
 intro n
 induction n with
 | zero=>intro k h;exact absurd h (Nat.not_lt_zero _)
 | succ n ih=>
  intro k hk
  cases k with
  | zero=>
   refine⟨?_, ?_, ?_, ?_⟩
   ·intro nest body r p h;simp only [Rd.rows]at h;cases h
   ·intro nest r p h;simp only [Rd.stmt]at h;cases h
   ·intro nest r p h;simp only [Rd.block]at h;cases h
   ·intro nest r p h;simp only [Rd.choice]at h;cases h
  | succ k=>
   obtain⟨h1,h2,h3,h4⟩:=ih k (by omega)
   exact⟨Rg fun j hj=>(ih j (by omega)).2.1,Re h3 h4,Oc h1,KB h3⟩
theorem JE {m n:Nat} {nest:Int} {body:Bool} {r:Rd} {p:(List Sm×List aF)×Rd} (h:Rd.rows m n nest body r=some p) {s:St} {o:Nat} (ho:s.aG[o]? = some (cE r)) :
 aE Tryz.prog gD [.ptr o 0, .int .i64 nest, .bool body] s (.tuple [.slice .shared 13 (p.1.1.map bd), .slice .shared 1 (p.1.2.map encStr)]) ⟨s.aG.set o (cE p.2),s.aH⟩:=
 (abj m (n+1) n (Nat.lt_succ_self _)).1 h ho
end Go.Abs

/-! Prs6 -/

namespace Go.Abs
set_option maxRecDepth 8000
open Go.Proofs
theorem wE {m:Nat} {B:fI} {Q:Exit→Tm→St→Prop} {row:List D} {name:aF} {p:Pc×Rd} (hB:B.s = ⟨[row],[]⟩) (hQ:iS 1 0 [(2,some (true,5))] (.agg (cb p.1)) ⟨[cE p.2],[]⟩=Q)
 (ps:List Pm) (r:Rd) (h:Rd.yr m name ps r=some p) :
 a8 Tryz.prog B 56 ZX (jP 2 (lO (gU Tryz.prog B 56 ZY Q) Q)) [(0, .ptr 0 0),(2, .ptr 1 0),(3, .ptr 2 0)]
  ⟨[cE r,[.str [], .slice .full 0 [], .slice .full 0 [], .slice .full 0 [], .slice .full 0 []],[.str name, .slice .shared 2 (ps.map fQ), .slice .full 0 [], .slice .full 0 [], .slice .full 0 []]],[]⟩:=by
 have⟨hF,hP,hY,hZ⟩:=bq
 unfold Rd.yr at h
 rw [Option.bind_eq_some_iff]at h
 obtain⟨q,h,hr⟩:=h
 refine a8.uP 2 2 1 rfl rfl ?_
 simp only [go_sem,hF,hP,hY,hZ]
 refine cd 3 1 (a8.ind (ι:=Nat×List aF×Rd×Nat) (fun i=>Rd.vars m i.1 i.2.1 i.2.2.1=some q∧i.2.2.2=i.2.1.length) (fun i=>i.1)
  (fun i=> [(0, .ptr 0 0),(2, .ptr 1 0),(3, .ptr 2 0)]) (fun i=>⟨[cE i.2.2.1,[.str [], .slice .full 0 [], .slice .full 0 [], .slice .full 0 [], .slice .full 0 []],[.str name, .slice .shared 2 (ps.map fQ), .slice (.tok 0) 1 (i.2.1.map encStr), .slice .full 0 [], .slice .full 0 []]],[some i.2.2.2]⟩) ?_ (m,[],r,0) ⟨h,rfl⟩)
 rintro⟨n,l,r,k⟩ ⟨h,hk⟩ IH
 dsimp only at hk;subst hk
 cases n with
 | zero=>simp only [Rd.vars]at h;cases h
 | succ n=>
  simp only [Rd.vars]at h
  repeat' (first
 | simp only [go_sem,hF,hP,hY,hZ]
 | (rw [Option.bind_eq_some_iff]at h;obtain⟨_,h1,h⟩:=h;first | (with_reducible refine CU (sT h1 (by with_unfolding_all rfl)) ?_) | (with_reducible refine CU (Lj h1 (by with_unfolding_all rfl) (by with_unfolding_all rfl)) ?_) | (with_reducible refine CU (JE h1 (by with_unfolding_all rfl)) ?_))
 | (with_reducible first | refine bK fun hc=> ?_ | refine bL fun hc=> ?_ | refine bM (fun hc=> ?_) fun hc=> ?_) <;> (try simp only [hc,bs, ↓reduceIte]at h) <;> try simp only [hc]
 | (with_reducible refine aC hQ ?_;exact nX)
 | (cases h;replace h:=hr;clear hr;(try simp only [bs, ↓reduceIte]at h))
 | (cases h;done))
  refine cd 3 1 (IH (n,_,_,_) ⟨h,rfl⟩ (Nat.lt_succ_self _))
theorem abk {m:Nat} {r:Rd} {p:Pc×Rd} (h:Rd.proc m r=some p) {s:St} {o:Nat} (ho:s.aG[o]? = some (cE r)) :
 aE Tryz.prog og [.ptr o 0] s (.agg (cb p.1)) ⟨s.aG.set o (cE p.2),s.aH⟩:=by
 refine aE.kz ?_ rfl (fS r) (fS p.2) (by simp [D.ok,rM]) ho
 unfold Rd.proc Rd.other at h
 refine aE.go xT rfl fun B Q hB hQ=> ?_
 have⟨hF,hP,hY,hZ⟩:=bq
 repeat' (first
 | simp only [go_sem,hF,hP,hY,hZ]
 | (rw [Option.bind_eq_some_iff]at h;obtain⟨_,h1,h⟩:=h;first | (with_reducible refine CU (pZ h1 (by with_unfolding_all rfl)) ?_) | (with_reducible refine CU (Aw h1 (by with_unfolding_all rfl)) ?_) | (with_reducible refine CU (xX h1 (by with_unfolding_all rfl)) ?_))
 | (with_reducible refine CU (kE (by with_unfolding_all rfl)) ?_)
 | (with_reducible first | refine bK fun hc=> ?_ | refine bL fun hc=> ?_ | refine bM (fun hc=> ?_) fun hc=> ?_) <;> (try simp only [hc,bs, ↓reduceIte]at h) <;> try simp only [hc]
 | (with_reducible refine aC hQ ?_;simp only [au,aw,bu,bw,go_sem,hF,hP,hY,hZ];repeat' (first | exact Ok.out | with_reducible refine aB ?_ ?_ | (simp;done))))
 ·refine cd 3 0 (wE hB hQ [] _ h)
 ·rename_i nm _ _ _ _ _
  rw [Option.bind_eq_some_iff]at h
  obtain⟨q,h,hr⟩:=h
  refine a8.uP 2 1 2 rfl rfl ?_
  simp only [go_sem,hF,hP,hY,hZ]
  refine cd 3 1 (a8.ind (ι:=Nat×List Pm×Rd×Nat) (fun i=>Rd.params i.1 i.2.1 i.2.2.1=some q∧i.2.2.2=i.2.1.length) (fun i=>i.1)
   (fun i=> [(0, .ptr 0 0),(2, .ptr 1 0),(3, .ptr 2 0)]) (fun i=>⟨[cE i.2.2.1,[.str [], .slice .full 0 [], .slice .full 0 [], .slice .full 0 [], .slice .full 0 []],[.str nm.1, .slice (.tok 0) 2 (i.2.1.map fQ), .slice .full 0 [], .slice .full 0 [], .slice .full 0 []]],[some i.2.2.2]⟩) ?_ (m,[],_,0) ⟨h,rfl⟩)
  rintro⟨n,l,r,k⟩ ⟨h,hk⟩ IH
  dsimp only at hk;subst hk
  cases n with
  | zero=>simp only [Rd.params]at h;cases h
  | succ n=>
   simp only [Rd.params]at h
   repeat' (first
 | simp only [go_sem,hF,hP,hY,hZ]
 | (rw [Option.bind_eq_some_iff]at h;obtain⟨_,h1,h⟩:=h;first | (with_reducible refine CU (sT h1 (by with_unfolding_all rfl)) ?_) | (with_reducible refine CU (xX h1 (by with_unfolding_all rfl)) ?_) | (obtain⟨hY,pC⟩:=oX h1;subst pC;simp only [go_sem,hF,hP,hY,hZ]) | (with_reducible refine CU (pZ h1 (by with_unfolding_all rfl)) ?_))
 | (with_reducible refine CU (kE (by with_unfolding_all rfl)) ?_)
 | (with_reducible first | refine bK fun hc=> ?_ | refine bL fun hc=> ?_ | refine bM (fun hc=> ?_) fun hc=> ?_) <;> (try simp only [hc,bs, ↓reduceIte]at h) <;> try simp only [hc]
 | (with_reducible refine aC hQ ?_;exact nX)
 | (cases h;replace h:=hr;clear hr;(try simp only [bs, ↓reduceIte]at h))
 | (cases h;done))
   ·refine cd 3 1 (IH (n,_,_,l.length+1) ⟨h,by simp⟩ (Nat.lt_succ_self _))
   ·refine cd 3 0 (wE hB hQ _ _ h)
   ·refine cd 3 0 (wE hB hQ _ _ h)
 ·refine cd 3 0 (wE hB hQ [] _ h)
theorem JG {m:Nat} {B:fI} {Q:Exit→Tm→St→Prop} {row:List D} {g:List aF} {p:Pg×Rd} (hB:B.s = ⟨[row],[]⟩) (hQ:iS 1 0 [(2,some (true,2))] (.agg (bH p.1)) ⟨[cE p.2],[]⟩=Q)
 (r:Rd) {k:Nat} (h:((Rd.procs m k [] r).bind fun q=>some (⟨g,q.1⟩,q.2))=some p) :
 a8 Tryz.prog B 49 QZR (jP 2 (lO (gU Tryz.prog B 49 ZP Q) Q)) [(0, .ptr 0 0),(2, .ptr 1 0),(3, .ptr 2 0)]
  ⟨[cE r,[.slice .full 0 [], .slice .full 0 []],[.slice .shared 1 (g.map encStr), .slice .full 0 []]],[]⟩:=by
 have⟨hF,hP,hY,hZ⟩:=bq
 rw [Option.bind_eq_some_iff]at h
 obtain⟨q,h,hr⟩:=h
 cases hr
 refine a8.uP 2 1 5 rfl rfl ?_
 simp only [go_sem,hF,hP,hY,hZ]
 refine cd 3 1 (a8.ind (ι:=Nat×List Pc×Rd×Nat) (fun i=>Rd.procs m i.1 i.2.1 i.2.2.1=some q∧i.2.2.2=i.2.1.length) (fun i=>i.1)
  (fun i=> [(0, .ptr 0 0),(2, .ptr 1 0),(3, .ptr 2 0)]) (fun i=>⟨[cE i.2.2.1,[.slice .full 0 [], .slice .full 0 []],[.slice .shared 1 (g.map encStr), .slice (.tok 0) 5 (i.2.1.map cb)]],[some i.2.2.2]⟩) ?_ (k,[],r,0) ⟨h,rfl⟩)
 rintro⟨n,l,r,k⟩ ⟨h,hk⟩ IH
 dsimp only at hk;subst hk
 cases n with
 | zero=>simp only [Rd.procs]at h;cases h
 | succ n=>
  simp only [Rd.procs,Rd.Qa,Rd.IC]at h
  repeat' (first
 | simp only [go_sem,hF,hP,hY,hZ]
 | (rw [Option.bind_eq_some_iff]at h;obtain⟨_,h1,h⟩:=h;first | (with_reducible refine CU (Aw h1 (by with_unfolding_all rfl)) ?_;have hF:=is_lt h1) | (with_reducible refine CU (Dv h1 (by with_unfolding_all rfl)) ?_) | (with_reducible refine CU (abk h1 (by with_unfolding_all rfl)) ?_) | (obtain⟨hY,pC⟩:=oX h1;subst pC;simp only [go_sem,hF,hP,hY,hZ]) | (with_reducible refine CU (o7 h1 (by with_unfolding_all rfl)) ?_))
 | (with_reducible refine CU (kE (by with_unfolding_all rfl)) ?_)
 | (with_reducible first | refine bK fun hc=> ?_ | refine bL fun hc=> ?_ | refine bM (fun hc=> ?_) fun hc=> ?_) <;> (try simp only [hc,bs, ↓reduceIte]at h) <;> try simp only [hc]
 | (with_reducible refine aC hQ ?_;(try cases h);simp only [au,aw,bu,bw,go_sem,hF,hP,hY,hZ];repeat' (first | exact Ok.out | with_reducible refine aB ?_ ?_ | (simp;done))))
  ·refine cd 3 1 (IH (n,_,_,l.length+1) ⟨h,by simp⟩ (Nat.lt_succ_self _))
end Go.Abs

/-! Lex3 -/

namespace Go.Abs
set_option maxRecDepth 8000
open Go.Proofs
theorem UL {c:UInt8} {r:aF} (h:oA c=true):0<q7 (c::r):=by simp [q7,h]
theorem Oe {text:aF} (hl:text.length≤100000) {B:fI} {Q:Exit→Tm→St→Prop} {p:List cj×Int×Int} (hB:B.s=S0)
 (hQ:iS 0 0 [(2,none),(3,some (true,2))] (.tuple [.slice .shared 4 (p.1.map eD), .agg (mY p.2)]) ⟨[],[]⟩=Q)
 {n pos:Nat} {out:List cj} (ho:out.length≤2000) (hp:pos≤text.length) (IH:sv text B Q p (n+1))
 {c:UInt8} {r:aF} (h1:text.drop pos=c::r) (hb:vj c=false) (hc:((c.toNat:Int)==35)=false) (hL:pY c=false) (hD:oA c=true) (hn:(c::r).length<n+1) (h:nJ (n+1) pos (c::r) out=p) :
 gU Tryz.prog B 152 Aq (jY Tryz.prog B 152 vh Q) (oC text out pos) (pA out):=by
 have hY:0<1:=Nat.zero_lt_one
 have hZ:0<1:=Nat.zero_lt_one
 have hP:=(drop_cons h1).1
 have g4:=(drop_cons h1).2.2.2
 have hF:pos<4611686018427387904:=by omega
 have eK:decide ((pos:Int)≥(text.length:Int))=false:=by simp;omega
 have gv:(out.length+1)*41≤bc:=by simp only [bc];omega
 have bl:=IV (c::r)
 have uF:=UL (r:=r) hD
 have fA:(c::r).length=text.length - pos:=by rw [← h1,List.length_drop]
 have wR:=IW (c::r)
 simp only [nJ,hb,Bool.false_eq_true, ↓reduceIte,hc,E0,hL,hD]at h
 simp only [vj,Bool.or_eq_false_iff]at hb
 generalize hK:q7 (c::r)=k at h bl uF wR
 have hlen:((c::r).take k).length=k:=by rw [List.length_take];omega
 have pO:=fun s=>Tq wR (by rw [hlen];omega) s
 simp only [hlen]at h
 have fZ:((c::r).take k)[0]? = some c:=by rw [List.getElem?_take_of_lt uF];rfl
 have e2:(0:Int)≤(pos:Int)∧(pos:Int)≤((pos+k:Nat):Int)∧((pos+k:Nat):Int)≤(text.length:Int):=by omega
 have e3:(text.take (pos+k)).drop pos=(c::r).take k:=by rw [yG,h1]
 have fin:text.drop (pos+k)=(c::r).drop k:=by rw [← h1,List.drop_drop]
 have ui:((c::r).drop k).length<n:=by rw [List.length_drop];omega
 have Wv:pos+k≤text.length:=by omega
 repeat' (first
 | simp only [go_sem,hF,hP,hY,hZ,eK,hb.1.1.1,hb.1.1.2,hb.1.2,hb.2,hc,hL,hD]
 | (with_reducible refine CU (ix _ _) ?_)
 | (with_reducible refine CU (jU _ _) ?_)
 | (with_reducible refine cw (l:=3) (by with_unfolding_all rfl) ?_)
 | (with_reducible refine aC hQ ?_;simp only [au,aw,bu,bw,go_sem,hF,hP,hY,hZ];repeat' (first | exact Ok.out | with_reducible refine aB ?_ ?_ | (simp;done))))
 refine cd 2 1 (a8.ind (ι:=aF×Nat) (fun i=>text.drop i.2=i.1∧i.2+q7 i.1=pos+k) (fun i=>i.1.length)
  (fun i=>oC text out i.2) (fun i=>⟨[[.int .i64 0, .int .i64 0],[.int .i64 0, .str [], .int .i64 0, .int .i64 (pos:Int)]],[some out.length]⟩) ?_ (c::r,pos) ⟨h1,by dsimp only;omega⟩)
 rintro⟨rest,j⟩ ⟨j1,j2⟩ IHl
 dsimp only at j1 j2
 have step : ∀ d jZ,rest=d::jZ→oA d=true→gU Tryz.prog B 152 ZN (lO (a8 Tryz.prog B 152 ZN
  (jP 3 (lO (gU Tryz.prog B 152 ZO (jY Tryz.prog B 152 vh Q)) (jY Tryz.prog B 152 vh Q))))
  (jP 3 (lO (gU Tryz.prog B 152 ZO (jY Tryz.prog B 152 vh Q)) (jY Tryz.prog B 152 vh Q))))
  (oC text out j) ⟨[[.int .i64 0, .int .i64 0],[.int .i64 0, .str [], .int .i64 0, .int .i64 (pos:Int)]],[some out.length]⟩:=by
  rintro d jZ rfl hd
  obtain⟨hP,g2,eK,g5⟩:=drop_cons j1
  have hF:j<4611686018427387904:=by omega
  simp only [q7,hd, ↓reduceIte]at j2
  repeat' (first
 | simp only [go_sem,hF,hP,hY,hZ,eK,hd]
 | (with_reducible refine CU (jU _ _) ?_)
 | (with_reducible first | refine bK fun hc=> ?_ | refine bL fun hc=> ?_ | refine bM (fun hc=> ?_) fun hc=> ?_) <;> (try simp only [hc,bs, ↓reduceIte]at h) <;> try simp only [hc]
 | (with_reducible refine aC hQ ?_;(try cases h);simp only [au,aw,bu,bw,go_sem,hF,hP,hY,hZ,eK,hd];repeat' (first | exact Ok.out | with_reducible refine aB ?_ ?_ | (simp;done))))
  refine cd 2 1 (IHl (jZ,j+1) ⟨g2,by dsimp only;omega⟩ (Nat.lt_succ_self _))
 cases rest with
 | nil=>
  have eK:=drop_nil j1
  simp only [q7,Nat.add_zero]at j2
  subst j2
  by_cases hz:k > 1∧(c.toNat:Int)=48
  ·have z1:decide ((k:Int) > 1)=true:=by simp;omega
   have z2:((c.toNat:Int)==48)=true:=by simp [hz.2]
   rw [if_pos hz]at h
   dsimp only at h
   repeat' (first
 | simp only [go_sem,hF,hP,hY,hZ,eK,e2,e3,hlen,fZ,z1,z2]
 | (with_reducible refine cw (l:=4) (by with_unfolding_all rfl) ?_)
 | (with_reducible refine cw (l:=5) (by with_unfolding_all rfl) ?_)
 | (with_reducible first | refine bK fun hc=> ?_ | refine bL fun hc=> ?_ | refine bM (fun hc=> ?_) fun hc=> ?_) <;> (try simp only [hc,bs, ↓reduceIte]at h) <;> try simp only [hc]
 | (with_reducible refine aC hQ ?_;(try cases h);simp only [au,aw,bu,bw,go_sem,hF,hP,hY,hZ,eK,e2,e3,hlen,fZ,z1,z2];repeat' (first | exact Ok.out | with_reducible refine aB ?_ ?_ | (simp;done))))
  ·have JH:decide ((k:Int) > 1)=false∨(decide ((k:Int) > 1)=true∧((c.toNat:Int)==48)=false):=by
    by_cases h1:k > 1
    ·right;exact⟨by simp;omega,by simp;intro h2;exact hz ⟨h1,h2⟩⟩
    ·left;simp;omega
   rw [if_neg hz]at h
   cases hw:wa 0 ((c::r).take k)with
   | none=>
    have JI:o8 ((c::r).take k)=(0,false):=by simp only [o8,hw]
    simp only [JI]at pO
    simp only [hw]at h
    rcases JH with z1 | ⟨z1,z2⟩
    ·repeat' (first
 | simp only [go_sem,hF,hP,hY,hZ,eK,e2,e3,hlen,fZ,z1]
 | (with_reducible refine CU (pO _) ?_)
 | (with_reducible refine cw (l:=4) (by with_unfolding_all rfl) ?_)
 | (with_reducible refine cw (l:=5) (by with_unfolding_all rfl) ?_)
 | (with_reducible first | refine bK fun hc=> ?_ | refine bL fun hc=> ?_ | refine bM (fun hc=> ?_) fun hc=> ?_) <;> (try simp only [hc,bs, ↓reduceIte]at h) <;> try simp only [hc]
 | (with_reducible refine aC hQ ?_;(try cases h);simp only [au,aw,bu,bw,go_sem,hF,hP,hY,hZ,eK,e2,e3,hlen,fZ,z1];repeat' (first | exact Ok.out | with_reducible refine aB ?_ ?_ | (simp;done))))
    ·repeat' (first
 | simp only [go_sem,hF,hP,hY,hZ,eK,e2,e3,hlen,fZ,z1,z2]
 | (with_reducible refine CU (pO _) ?_)
 | (with_reducible refine cw (l:=4) (by with_unfolding_all rfl) ?_)
 | (with_reducible refine cw (l:=5) (by with_unfolding_all rfl) ?_)
 | (with_reducible first | refine bK fun hc=> ?_ | refine bL fun hc=> ?_ | refine bM (fun hc=> ?_) fun hc=> ?_) <;> (try simp only [hc,bs, ↓reduceIte]at h) <;> try simp only [hc]
 | (with_reducible refine aC hQ ?_;(try cases h);simp only [au,aw,bu,bw,go_sem,hF,hP,hY,hZ,eK,e2,e3,hlen,fZ,z1,z2];repeat' (first | exact Ok.out | with_reducible refine aB ?_ ?_ | (simp;done))))
   | some v=>
    have JI:o8 ((c::r).take k)=(v,true):=by simp only [o8,hw]
    simp only [JI]at pO
    simp only [hw,hlen]at h
    by_cases rB:out.length=2000
    ·have kq:((out.length:Int)==2000)=true:=by simp [rB]
     simp only [rB, ↓reduceIte]at h
     rcases JH with z1 | ⟨z1,z2⟩
     ·repeat' (first
 | simp only [go_sem,hF,hP,hY,hZ,eK,e2,e3,hlen,fZ,z1,kq]
 | (with_reducible refine CU (pO _) ?_)
 | (with_reducible refine cw (l:=4) (by with_unfolding_all rfl) ?_)
 | (with_reducible refine cw (l:=5) (by with_unfolding_all rfl) ?_)
 | (with_reducible first | refine bK fun hc=> ?_ | refine bL fun hc=> ?_ | refine bM (fun hc=> ?_) fun hc=> ?_) <;> (try simp only [hc,bs, ↓reduceIte]at h) <;> try simp only [hc]
 | (with_reducible refine aC hQ ?_;(try cases h);simp only [au,aw,bu,bw,go_sem,hF,hP,hY,hZ,eK,e2,e3,hlen,fZ,z1,kq];repeat' (first | exact Ok.out | with_reducible refine aB ?_ ?_ | (simp;done))))
     ·repeat' (first
 | simp only [go_sem,hF,hP,hY,hZ,eK,e2,e3,hlen,fZ,z1,z2,kq]
 | (with_reducible refine CU (pO _) ?_)
 | (with_reducible refine cw (l:=4) (by with_unfolding_all rfl) ?_)
 | (with_reducible refine cw (l:=5) (by with_unfolding_all rfl) ?_)
 | (with_reducible first | refine bK fun hc=> ?_ | refine bL fun hc=> ?_ | refine bM (fun hc=> ?_) fun hc=> ?_) <;> (try simp only [hc,bs, ↓reduceIte]at h) <;> try simp only [hc]
 | (with_reducible refine aC hQ ?_;(try cases h);simp only [au,aw,bu,bw,go_sem,hF,hP,hY,hZ,eK,e2,e3,hlen,fZ,z1,z2,kq];repeat' (first | exact Ok.out | with_reducible refine aB ?_ ?_ | (simp;done))))
    ·have kq:((out.length:Int)==2000)=false:=by simp;omega
     have BT : ∀ t:cj,(out++ [t]).length≤2000:=by intro t;simp;omega
     simp only [rB, ↓reduceIte]at h
     rcases JH with z1 | ⟨z1,z2⟩
     ·repeat' (first
 | simp only [go_sem,hF,hP,hY,hZ,eK,e2,e3,hlen,fZ,z1,kq,gv]
 | (with_reducible refine CU (pO _) ?_)
 | (with_reducible refine cw (l:=4) (by with_unfolding_all rfl) ?_)
 | (with_reducible refine cw (l:=5) (by with_unfolding_all rfl) ?_)
 | (refine IH.to hB fin h ui (BT _) Wv (Nat.lt_succ_self _) ?_ ?_ ?_ <;> ((try simp only [go_sem,hF,hP,hY,hZ]);repeat' (first | exact Ok.out | with_reducible refine aB ?_ ?_ | omega | (simp;done)));done)
 | (with_reducible first | refine bK fun hc=> ?_ | refine bL fun hc=> ?_ | refine bM (fun hc=> ?_) fun hc=> ?_) <;> (try simp only [hc,bs, ↓reduceIte]at h) <;> try simp only [hc]
 | (with_reducible refine aC hQ ?_;(try cases h);simp only [au,aw,bu,bw,go_sem,hF,hP,hY,hZ,eK,e2,e3,hlen,fZ,z1,kq,gv];repeat' (first | exact Ok.out | with_reducible refine aB ?_ ?_ | (simp;done))))
     ·repeat' (first
 | simp only [go_sem,hF,hP,hY,hZ,eK,e2,e3,hlen,fZ,z1,z2,kq,gv]
 | (with_reducible refine CU (pO _) ?_)
 | (with_reducible refine cw (l:=4) (by with_unfolding_all rfl) ?_)
 | (with_reducible refine cw (l:=5) (by with_unfolding_all rfl) ?_)
 | (refine IH.to hB fin h ui (BT _) Wv (Nat.lt_succ_self _) ?_ ?_ ?_ <;> ((try simp only [go_sem,hF,hP,hY,hZ]);repeat' (first | exact Ok.out | with_reducible refine aB ?_ ?_ | omega | (simp;done)));done)
 | (with_reducible first | refine bK fun hc=> ?_ | refine bL fun hc=> ?_ | refine bM (fun hc=> ?_) fun hc=> ?_) <;> (try simp only [hc,bs, ↓reduceIte]at h) <;> try simp only [hc]
 | (with_reducible refine aC hQ ?_;(try cases h);simp only [au,aw,bu,bw,go_sem,hF,hP,hY,hZ,eK,e2,e3,hlen,fZ,z1,z2,kq,gv];repeat' (first | exact Ok.out | with_reducible refine aB ?_ ?_ | (simp;done))))
 | cons d rest=>
  obtain⟨hP,g2,eK,g5⟩:=drop_cons j1
  have hF:j<4611686018427387904:=by omega
  cases hd:oA d
  ·simp only [q7,hd,Bool.false_eq_true, ↓reduceIte,Nat.add_zero]at j2
   subst j2
   by_cases hz:k > 1∧(c.toNat:Int)=48
   ·have z1:decide ((k:Int) > 1)=true:=by simp;omega
    have z2:((c.toNat:Int)==48)=true:=by simp [hz.2]
    rw [if_pos hz]at h
    dsimp only at h
    repeat' (first
 | simp only [go_sem,hF,hP,hY,hZ,eK,hd,e2,e3,hlen,fZ,z1,z2]
 | (with_reducible refine CU (jU _ _) ?_)
 | (with_reducible refine cw (l:=4) (by with_unfolding_all rfl) ?_)
 | (with_reducible refine cw (l:=5) (by with_unfolding_all rfl) ?_)
 | (with_reducible first | refine bK fun hc=> ?_ | refine bL fun hc=> ?_ | refine bM (fun hc=> ?_) fun hc=> ?_) <;> (try simp only [hc,bs, ↓reduceIte]at h) <;> try simp only [hc]
 | (with_reducible refine aC hQ ?_;(try cases h);simp only [au,aw,bu,bw,go_sem,hF,hP,hY,hZ,eK,hd,e2,e3,hlen,fZ,z1,z2];repeat' (first | exact Ok.out | with_reducible refine aB ?_ ?_ | (simp;done))))
   ·have JH:decide ((k:Int) > 1)=false∨(decide ((k:Int) > 1)=true∧((c.toNat:Int)==48)=false):=by
     by_cases h1:k > 1
     ·right;exact⟨by simp;omega,by simp;intro h2;exact hz ⟨h1,h2⟩⟩
     ·left;simp;omega
    rw [if_neg hz]at h
    cases hw:wa 0 ((c::r).take k)with
    | none=>
     have JI:o8 ((c::r).take k)=(0,false):=by simp only [o8,hw]
     simp only [JI]at pO
     simp only [hw]at h
     rcases JH with z1 | ⟨z1,z2⟩
     ·repeat' (first
 | simp only [go_sem,hF,hP,hY,hZ,eK,hd,e2,e3,hlen,fZ,z1]
 | (with_reducible refine CU (jU _ _) ?_)
 | (with_reducible refine CU (pO _) ?_)
 | (with_reducible refine cw (l:=4) (by with_unfolding_all rfl) ?_)
 | (with_reducible refine cw (l:=5) (by with_unfolding_all rfl) ?_)
 | (with_reducible first | refine bK fun hc=> ?_ | refine bL fun hc=> ?_ | refine bM (fun hc=> ?_) fun hc=> ?_) <;> (try simp only [hc,bs, ↓reduceIte]at h) <;> try simp only [hc]
 | (with_reducible refine aC hQ ?_;(try cases h);simp only [au,aw,bu,bw,go_sem,hF,hP,hY,hZ,eK,hd,e2,e3,hlen,fZ,z1];repeat' (first | exact Ok.out | with_reducible refine aB ?_ ?_ | (simp;done))))
     ·repeat' (first
 | simp only [go_sem,hF,hP,hY,hZ,eK,hd,e2,e3,hlen,fZ,z1,z2]
 | (with_reducible refine CU (jU _ _) ?_)
 | (with_reducible refine CU (pO _) ?_)
 | (with_reducible refine cw (l:=4) (by with_unfolding_all rfl) ?_)
 | (with_reducible refine cw (l:=5) (by with_unfolding_all rfl) ?_)
 | (with_reducible first | refine bK fun hc=> ?_ | refine bL fun hc=> ?_ | refine bM (fun hc=> ?_) fun hc=> ?_) <;> (try simp only [hc,bs, ↓reduceIte]at h) <;> try simp only [hc]
 | (with_reducible refine aC hQ ?_;(try cases h);simp only [au,aw,bu,bw,go_sem,hF,hP,hY,hZ,eK,hd,e2,e3,hlen,fZ,z1,z2];repeat' (first | exact Ok.out | with_reducible refine aB ?_ ?_ | (simp;done))))
    | some v=>
     have JI:o8 ((c::r).take k)=(v,true):=by simp only [o8,hw]
     simp only [JI]at pO
     simp only [hw,hlen]at h
     by_cases rB:out.length=2000
     ·have kq:((out.length:Int)==2000)=true:=by simp [rB]
      simp only [rB, ↓reduceIte]at h
      rcases JH with z1 | ⟨z1,z2⟩
      ·repeat' (first
 | simp only [go_sem,hF,hP,hY,hZ,eK,hd,e2,e3,hlen,fZ,z1,kq]
 | (with_reducible refine CU (jU _ _) ?_)
 | (with_reducible refine CU (pO _) ?_)
 | (with_reducible refine cw (l:=4) (by with_unfolding_all rfl) ?_)
 | (with_reducible refine cw (l:=5) (by with_unfolding_all rfl) ?_)
 | (with_reducible first | refine bK fun hc=> ?_ | refine bL fun hc=> ?_ | refine bM (fun hc=> ?_) fun hc=> ?_) <;> (try simp only [hc,bs, ↓reduceIte]at h) <;> try simp only [hc]
 | (with_reducible refine aC hQ ?_;(try cases h);simp only [au,aw,bu,bw,go_sem,hF,hP,hY,hZ,eK,hd,e2,e3,hlen,fZ,z1,kq];repeat' (first | exact Ok.out | with_reducible refine aB ?_ ?_ | (simp;done))))
      ·repeat' (first
 | simp only [go_sem,hF,hP,hY,hZ,eK,hd,e2,e3,hlen,fZ,z1,z2,kq]
 | (with_reducible refine CU (jU _ _) ?_)
 | (with_reducible refine CU (pO _) ?_)
 | (with_reducible refine cw (l:=4) (by with_unfolding_all rfl) ?_)
 | (with_reducible refine cw (l:=5) (by with_unfolding_all rfl) ?_)
 | (with_reducible first | refine bK fun hc=> ?_ | refine bL fun hc=> ?_ | refine bM (fun hc=> ?_) fun hc=> ?_) <;> (try simp only [hc,bs, ↓reduceIte]at h) <;> try simp only [hc]
 | (with_reducible refine aC hQ ?_;(try cases h);simp only [au,aw,bu,bw,go_sem,hF,hP,hY,hZ,eK,hd,e2,e3,hlen,fZ,z1,z2,kq];repeat' (first | exact Ok.out | with_reducible refine aB ?_ ?_ | (simp;done))))
     ·have kq:((out.length:Int)==2000)=false:=by simp;omega
      have BT : ∀ t:cj,(out++ [t]).length≤2000:=by intro t;simp;omega
      simp only [rB, ↓reduceIte]at h
      rcases JH with z1 | ⟨z1,z2⟩
      ·repeat' (first
 | simp only [go_sem,hF,hP,hY,hZ,eK,hd,e2,e3,hlen,fZ,z1,kq,gv]
 | (with_reducible refine CU (jU _ _) ?_)
 | (with_reducible refine CU (pO _) ?_)
 | (with_reducible refine cw (l:=4) (by with_unfolding_all rfl) ?_)
 | (with_reducible refine cw (l:=5) (by with_unfolding_all rfl) ?_)
 | (refine IH.to hB fin h ui (BT _) Wv (Nat.lt_succ_self _) ?_ ?_ ?_ <;> ((try simp only [go_sem,hF,hP,hY,hZ]);repeat' (first | exact Ok.out | with_reducible refine aB ?_ ?_ | omega | (simp;done)));done)
 | (with_reducible first | refine bK fun hc=> ?_ | refine bL fun hc=> ?_ | refine bM (fun hc=> ?_) fun hc=> ?_) <;> (try simp only [hc,bs, ↓reduceIte]at h) <;> try simp only [hc]
 | (with_reducible refine aC hQ ?_;(try cases h);simp only [au,aw,bu,bw,go_sem,hF,hP,hY,hZ,eK,hd,e2,e3,hlen,fZ,z1,kq,gv];repeat' (first | exact Ok.out | with_reducible refine aB ?_ ?_ | (simp;done))))
      ·repeat' (first
 | simp only [go_sem,hF,hP,hY,hZ,eK,hd,e2,e3,hlen,fZ,z1,z2,kq,gv]
 | (with_reducible refine CU (jU _ _) ?_)
 | (with_reducible refine CU (pO _) ?_)
 | (with_reducible refine cw (l:=4) (by with_unfolding_all rfl) ?_)
 | (with_reducible refine cw (l:=5) (by with_unfolding_all rfl) ?_)
 | (refine IH.to hB fin h ui (BT _) Wv (Nat.lt_succ_self _) ?_ ?_ ?_ <;> ((try simp only [go_sem,hF,hP,hY,hZ]);repeat' (first | exact Ok.out | with_reducible refine aB ?_ ?_ | omega | (simp;done)));done)
 | (with_reducible refine aC hQ ?_;simp only [au,aw,bu,bw,go_sem,hF,hP,hY,hZ];repeat' (first | exact Ok.out | with_reducible refine aB ?_ ?_ | (simp;done))))
  ·exact step d rest rfl hd
theorem Lk {text:aF} (hl:text.length≤100000) {B:fI} {Q:Exit→Tm→St→Prop} {p:List cj×Int×Int} (hB:B.s=S0)
 (hQ:iS 0 0 [(2,none),(3,some (true,2))] (.tuple [.slice .shared 4 (p.1.map eD), .agg (mY p.2)]) ⟨[],[]⟩=Q)
 {n pos:Nat} {out:List cj} (ho:out.length≤2000) (hp:pos≤text.length) (IH:sv text B Q p (n+1)) {rest:aF} (h1:text.drop pos=rest) (h:nJ (n+1) pos rest out=p) (hn:rest.length<n+1) :
 gU Tryz.prog B 152 Aq (jY Tryz.prog B 152 vh Q) (oC text out pos) (pA out):=by
 cases rest with
 | nil=>exact lex_nil hl hB hQ ho hp IH h1 h
 | cons c r=>
  cases hb:vj c
  ·cases hc:((c.toNat:Int)==35)
   ·cases hL:pY c
    ·cases hD:oA c
     ·exact Ts hl hB hQ ho hp IH h1 hb hc hL hD hn h
     ·exact Oe hl hB hQ ho hp IH h1 hb hc hL hD hn h
    ·exact Tv hl hB hQ ho hp IH h1 hb hc hL hn h
   ·exact NK hl hB hQ ho hp IH h1 hb hc hn h
  ·exact Qh hl hB hQ ho hp IH h1 hb hn h
theorem abl {text:aF} (hl:text.length≤100000) {B:fI} {Q:Exit→Tm→St→Prop} {p:List cj×Int×Int} (hB:B.s=S0)
 (hQ:iS 0 0 [(2,none),(3,some (true,2))] (.tuple [.slice .shared 4 (p.1.map eD), .agg (mY p.2)]) ⟨[],[]⟩=Q) : ∀ N,sv text B Q p N:=by
 intro N
 induction N with
 | zero=>intro n pos rest out _ _ _ _ _ h;exact absurd h (Nat.not_lt_zero _)
 | succ N ih=>
  intro n pos rest out h1 h h2 h3 h4 h5
  cases n with
  | zero=>omega
  | succ n=>
   refine od.sj ?_
   show gU Tryz.prog B 152 Aq (jY Tryz.prog B 152 vh Q) (oC text out pos) (pA out)
   exact Lk hl hB hQ h3 h4 (fun n' pos' jZ bC a b c d e f=>ih n' pos' jZ bC a b c d e (by omega)) h1 h h2
theorem aej (text:aF) (hl:text.length<4611686018427387904) (s:St) :
 aE Tryz.prog Al [.str text] s (.tuple [.slice .shared 4 ((o5 text).1.map eD), .agg (mY (o5 text).2)]) s:=by
 refine aE.pure ?_ rfl (by simp [D.ok,D.bR,Iy,Tag.ok,mY]) s
 generalize h:o5 text=p
 unfold o5 at h
 unfold S0
 refine aE.go Ko rfl fun B Q hB hQ=> ?_
 have⟨hF,hP,hY,hZ⟩:=bq
 repeat' (first
 | simp only [go_sem,hF,hP,hY,hZ]
 | (with_reducible first | refine bK fun hc=> ?_ | refine bL fun hc=> ?_ | refine bM (fun hc=> ?_) fun hc=> ?_) <;> (try simp only [hc,bs, ↓reduceIte]at h) <;> try simp only [hc]
 | (with_reducible refine aC hQ ?_;(try cases h);simp only [au,aw,bu,bw,go_sem,hF,hP,hY,hZ];repeat' (first | exact Ok.out | with_reducible refine aB ?_ ?_ | (simp;done))))
 refine od.once (Sem.kJ ?_)
 simp only [go_sem,hF,hP,hY,hZ]
 refine Sem.kJ ?_
 simp only [go_sem,hF,hP,hY,hZ]
 refine Sem.kJ ?_
 simp only [go_sem,hF,hP,hY,hZ]
 refine Sem.kJ ?_
 by_cases hz:text.length > 100000
 ·have n5:decide ((text.length:Int) > 100000)=true:=by simp;omega
  rw [if_pos hz]at h
  repeat' (first
 | simp only [go_sem,hF,hP,hY,hZ,n5]
 | (with_reducible first | refine bK fun hc=> ?_ | refine bL fun hc=> ?_ | refine bM (fun hc=> ?_) fun hc=> ?_) <;> (try simp only [hc,bs, ↓reduceIte]at h) <;> try simp only [hc]
 | (with_reducible refine aC hQ ?_;(try cases h);simp only [au,aw,bu,bw,go_sem,hF,hP,hY,hZ,n5];repeat' (first | exact Ok.out | with_reducible refine aB ?_ ?_ | (simp;done))))
 ·have n5:decide ((text.length:Int) > 100000)=false:=by simp;omega
  rw [if_neg hz]at h
  have nQ:text.length≤100000:=by omega
  have hQ':iS 0 0 [(2,none),(3,some (true,2))] (.tuple [.slice .shared 4 (p.1.map eD), .agg (mY p.2)]) ⟨[],[]⟩=Q:=hQ
  repeat' (first
 | simp only [go_sem,hF,hP,hY,hZ,n5]
 | (with_reducible refine aC hQ ?_;simp only [au,aw,bu,bw,go_sem,hF,hP,hY,hZ];repeat' (first | exact Ok.out | with_reducible refine aB ?_ ?_ | (simp;done))))
  refine Sem.kJ ?_
  simp only [go_sem,hF,hP,hY,hZ]
  refine Sem.jB 4 4 rfl ?_
  simp only [go_sem,hF,hP,hY,hZ]
  refine Sem.re _ _ 2 1 (by rw [hB];exact mr rfl) (by rw [hB];exact mr rfl) ?_ ?_ (iA (Lk nQ hB hQ' (out:= []) (pos:=0) (by simp) (Nat.zero_le _) (abl nQ hB hQ' _) rfl h (by simp)))
  ·(simp only [go_sem,hF,hP,hY,hZ];repeat' (first | exact Ok.out | with_reducible refine aB ?_ ?_))
  ·(simp only [go_sem,hF,hP,hY,hZ];repeat' (first | exact Ok.out | with_reducible refine aB ?_ ?_))
end Go.Abs

/-! MirParse -/

namespace Go.Abs
def Ww (l:List cj):Rd:=⟨l,0,0,0,0⟩
def DX (m:Nat) (text:aF):Option (Pg×Int×Int):=
 if(o5 text).2.1 != 0 then some (Da,(o5 text).2)
 else(Rd.program m (Ww (o5 text).1)).bind fun p=>if p.2.code != 0 then some (Da,p.2.code,p.2.qM)else(p.1.Er).bind fun q=>some (q,0,0)
def awP (m:Nat) (text:aF):Option (Ex×Int×Int):=
 if(o5 text).2.1 != 0 then some (mw,(o5 text).2)
 else(Rd.whole m (Ww (o5 text).1)).bind fun x=>x.2.IC.bind fun b=>
  if b then(x.2.bad 3).bind fun r=>if !r.good then some (mw,r.code,r.qM)else some (x.1,0,0)
  else if !x.2.good then some (mw,x.2.code,x.2.qM)else some (x.1,0,0)
end Go.Abs

/-! Prs7 -/

namespace Go.Abs
set_option maxRecDepth 8000
open Go.Proofs
theorem Rh {m:Nat} {r:Rd} {p:Pg×Rd} (h:Rd.program m r=some p) {s:St} {o:Nat} (ho:s.aG[o]? = some (cE r)) :
 aE Tryz.prog ma [.ptr o 0] s (.agg (bH p.1)) ⟨s.aG.set o (cE p.2),s.aH⟩:=by
 refine aE.kz ?_ rfl (fS r) (fS p.2) (by simp [D.ok,fX]) ho
 unfold Rd.program at h
 refine aE.go vi rfl fun B Q hB hQ=> ?_
 have⟨hF,hP,hY,hZ⟩:=bq
 repeat' (first
 | simp only [go_sem,hF,hP,hY,hZ]
 | (with_reducible refine aC hQ ?_;simp only [au,aw,bu,bw,go_sem,hF,hP,hY,hZ];repeat' (first | exact Ok.out | with_reducible refine aB ?_ ?_ | (simp;done))))
 rw [Option.bind_eq_some_iff]at h
 obtain⟨q,h,hr⟩:=h
 refine a8.uP 2 0 1 rfl rfl ?_
 simp only [go_sem,hF,hP,hY,hZ]
 refine cd 3 1 (a8.ind (ι:=Nat×List aF×Rd×Nat) (fun i=>Rd.globals m i.1 i.2.1 i.2.2.1=some q∧i.2.2.2=i.2.1.length) (fun i=>i.1)
  (fun i=> [(0, .ptr 0 0),(2, .ptr 1 0),(3, .ptr 2 0)]) (fun i=>⟨[cE i.2.2.1,[.slice .full 0 [], .slice .full 0 []],[.slice (.tok 0) 1 (i.2.1.map encStr), .slice .full 0 []]],[some i.2.2.2]⟩) ?_ (m,[],r,0) ⟨h,rfl⟩)
 rintro⟨n,l,r,k⟩ ⟨h,hk⟩ IH
 dsimp only at hk;subst hk
 cases n with
 | zero=>simp only [Rd.globals]at h;cases h
 | succ n=>
  simp only [Rd.globals]at h
  repeat' (first
 | simp only [go_sem,hF,hP,hY,hZ]
 | (rw [Option.bind_eq_some_iff]at h;obtain⟨_,h1,h⟩:=h;first | (with_reducible refine CU (sT h1 (by with_unfolding_all rfl)) ?_) | (with_reducible refine CU (Lj h1 (by with_unfolding_all rfl) (by with_unfolding_all rfl)) ?_))
 | (with_reducible first | refine bK fun hc=> ?_ | refine bL fun hc=> ?_ | refine bM (fun hc=> ?_) fun hc=> ?_) <;> (try simp only [hc,bs, ↓reduceIte]at h) <;> try simp only [hc]
 | (with_reducible refine aC hQ ?_;exact nX)
 | (cases h;replace h:=hr;clear hr;(try simp only [bs, ↓reduceIte]at h))
 | (cases h;done))
  ·refine cd 3 1 (IH (n,_,_,_) ⟨h,rfl⟩ (Nat.lt_succ_self _))
  ·refine cd 3 0 (JG hB hQ _ h)
theorem X8 {m:Nat} {text:aF} {p:Pg×Int×Int} (h:DX m text=some p) (hl:text.length<4611686018427387904) (s:St) :
 aE Tryz.prog ta [.str text] s (.tuple [.agg (bH p.1), .agg (mY p.2)]) s:=by
 refine aE.pure ?_ rfl (by simp [D.ok,D.bR,fX,mY]) s
 unfold DX at h
 have abm:=aej text hl
 generalize o5 text=t at h abm
 unfold S0
 refine aE.go De rfl fun B Q hB hQ=> ?_
 have⟨hF,hP,hY,hZ⟩:=bq
 repeat' (first
 | simp only [go_sem,hF,hP,hY,hZ,Ww]
 | (rw [Option.bind_eq_some_iff]at h;obtain⟨_,h1,h⟩:=h;first | (with_reducible refine CU (Rh h1 (by with_unfolding_all rfl)) ?_) | (with_reducible refine CU (Ua h1 _) ?_))
 | (with_reducible refine CU (abm _) ?_)
 | (with_reducible first | refine bK fun hc=> ?_ | refine bL fun hc=> ?_ | refine bM (fun hc=> ?_) fun hc=> ?_) <;> (try simp only [hc,bs, ↓reduceIte]at h) <;> try simp only [hc]
 | (with_reducible refine aC hQ ?_;(try cases h);simp only [au,aw,bu,bw,go_sem,hF,hP,hY,hZ,Ww];repeat' (first | exact Ok.out | with_reducible refine aB ?_ ?_ | (simp;done))))
end Go.Abs

/-! Room1 -/

namespace Go.Abs
set_option maxRecDepth 8000
open Go.Proofs
def abn (n k:Int):Int:=if Int.tmod n k<0 then Int.tmod n k+k else Int.tmod n k
def aek (t:aF):Nat→aF
 | 0=> []
 | n+1=>aek t n++t
def two (i:Nat):aF:= [UInt8.ofNat (48+i / 10),UInt8.ofNat (48+i % 10)]
def abo (ahead:aF):Nat→aF
 | 0=> []
 | n+1=>(if n=0 then abo ahead n else abo ahead n++ [44])++(ahead++ [97]++two n)
def abp:Nat→aF
 | 0=> []
 | n+1=>abp n++([112,114,111,99,32,112]++two n++ [40,41,123,125])
end Go.Abs

/-! Al4 -/

namespace Go.Abs
set_option maxRecDepth 8000
open Go.Proofs
def abq (k:Int):List It→List Int
 | []=> []
 | i::l=>if k==0 || i.s.kind==k then i.s.id::abq k l else abq k l
def awQ (l:List Int) (n:Int):Int:=match l[(abn n l.length).toNat]? with | some x=>x | none=>0
def Wx (id:Int):List It→Option It
 | []=>none
 | i::l=>if i.s.id==id then some i else Wx id l
def Wy (id:Int):List Pc→Option (It×aF)
 | []=>none
 | f::l=>match Wx id f.flat with | some i=>some (i,f.name) | none=>Wy id l
def it0:It:=⟨Iu,0,0,false⟩
def apn (r:Option (It×aF)):D:=match r with
 | some (i,nm)=> .tuple [.agg (ej i), .str nm, .bool true]
 | none=> .tuple [.agg (ej it0), .str [], .bool false]
def Pg.awR (p:Pg) (id:Int):Sm:=match Wy id p.procs with | some (i,_)=>i.s | none=>Iu
end Go.Abs

/-! Full1 -/

namespace Go.Abs
set_option maxRecDepth 8000
open Go.Proofs
def c7 (t:aF) (n:Int):Int:=if n > 20000 then 20001 else if(t.length:Int)≥20000 - n then 20001 else n+1+t.length
mutual
def fj:Ex→Int→Int
 | ⟨_,_,name,kids⟩,n=>ni kids (c7 name n)
def ni:List Ex→Int→Int
 | [],n=>n
 | x::l,n=>if n≤20000 then ni l (fj x n)else n
end
theorem l5 {t:aF} {n:Int} (h0:0≤n):c7 t n≤20001∧(n≤20000→n+1≤c7 t n)∧0≤c7 t n∧(c7 t n≤20000→n+1+t.length=c7 t n):=by
 unfold c7;split
 ·omega
 ·split <;> omega
theorem vw : ∀ (m:Nat) (x:Ex),x.size≤m→∀ n:Int,0≤n→fj x n≤20001∧(n≤20000→n+1≤fj x n)∧0≤fj x n∧(fj x n≤20000→(x.size:Int)+1≤2*(fj x n - n)∧x.texts):=by
 intro m
 induction m with
 | zero=>rintro⟨op,v,name,kids⟩ h;simp only [Ex.size]at h;omega
 | succ m ih=>
  rintro⟨op,v,name,kids⟩ h n h0
  simp only [Ex.size]at h
  obtain⟨t1,t2,t3,t4⟩:=l5 (t:=name) h0
  have go : ∀ (l:List Ex),Ex.aS l≤m→∀ c:Int,0≤c→c≤20001→ni l c≤20001∧c≤ni l c∧(ni l c≤20000→(Ex.aS l:Int)≤2*(ni l c - c)∧Ex.vk l):=by
   intro l
   induction l with
   | nil=>intro _ c h0 h1;simp only [ni,Ex.aS];exact⟨h1,Int.le_refl _,fun _=>⟨by omega,trivial⟩⟩
   | cons y l P9=>
    intro hs c h0 h1
    simp only [Ex.aS]at hs ⊢
    simp only [ni]
    split
    ·rename_i hc
     obtain⟨a1,a2,a3,a4⟩:=ih y (by omega) c h0
     obtain⟨b1,b2,b3⟩:=P9 (by omega) (fj y c) a3 a1
     have:=a2 hc
     refine⟨b1,by omega,fun hw=> ?_⟩
     obtain⟨c1,c2⟩:=b3 hw
     obtain⟨d1,d2⟩:=a4 (by omega)
     exact⟨by omega,d2,c2⟩
    ·exact⟨h1,Int.le_refl _,fun hw=>by omega⟩
  obtain⟨g1,g2,g3⟩:=go kids (by omega) (c7 name n) t3 t1
  simp only [fj,Ex.size]
  refine⟨g1,fun hn=>by have:=t2 hn;omega,by omega,fun hw=> ?_⟩
  obtain⟨k1,k2⟩:=g3 hw
  have:=t4 (by omega)
  exact⟨by omega,by omega,k2⟩
theorem qq (t:aF) {n:Int} (h0:0≤n) (h1:n≤20001) (s:St):aE Tryz.prog gh [.str t, .int .i64 n] s (.int .i64 (c7 t n)) s:=by
 refine aE.pure ?_ rfl rfl s
 unfold S0
 have w1:IntKind.wrap .i64 (20000 - n)=20000 - n:=dc (by omega) (by omega)
 have w2:IntKind.wrap .i64 (n+1)=n+1:=dc (by omega) (by omega)
 by_cases c:n > 20000
 ·have c1:decide (n > 20000)=true:=by simp;omega
  have e:c7 t n=20001:=by simp [c7,c]
  rw [e]
  refine aE.go o4 rfl fun B Q hB hQ=> ?_
  have⟨hF,hP,hY,hZ⟩:=bq
  repeat' (first
 | simp only [go_sem,hF,hP,hY,hZ,c1,w1,w2]
 | (with_reducible refine aC hQ ?_;simp only [au,aw,Option.some.injEq,exists_eq_left',go_sem,hF,hP,hY,hZ];repeat' (first | exact Ok.out | with_reducible refine aB ?_ ?_ | (simp;done))))
 ·have c1:decide (n > 20000)=false:=by simp;omega
  by_cases d:(t.length:Int)≥20000 - n
  ·have d1:decide ((t.length:Int)≥20000 - n)=true:=by simp;omega
   have e:c7 t n=20001:=by unfold c7;rw [if_neg c,if_pos d]
   rw [e]
   refine aE.go o4 rfl fun B Q hB hQ=> ?_
   have⟨hF,hP,hY,hZ⟩:=bq
   repeat' (first
 | simp only [go_sem,hF,hP,hY,hZ,c1,d1,w1,w2]
 | (with_reducible refine aC hQ ?_;simp only [au,aw,Option.some.injEq,exists_eq_left',go_sem,hF,hP,hY,hZ];repeat' (first | exact Ok.out | with_reducible refine aB ?_ ?_ | (simp;done))))
  ·have d1:decide ((t.length:Int)≥20000 - n)=false:=by simp;omega
   have e:c7 t n=n+1+t.length:=by unfold c7;rw [if_neg c,if_neg d]
   have w3:IntKind.wrap .i64 (n+1+t.length)=n+1+t.length:=dc (by omega) (by omega)
   rw [e]
   refine aE.go o4 rfl fun B Q hB hQ=> ?_
   have⟨hF,hP,hY,hZ⟩:=bq
   repeat' (first
 | simp only [go_sem,hF,hP,hY,hZ,c1,d1,w1,w2,w3]
 | (with_reducible refine aC hQ ?_;simp only [au,aw,Option.some.injEq,exists_eq_left',go_sem,hF,hP,hY,hZ];repeat' (first | exact Ok.out | with_reducible refine aB ?_ ?_ | (simp;done))))
theorem JJ : ∀ (m:Nat) (x:Ex),x.size≤m→∀ {n:Int},0≤n→n≤20000→∀ s:St,aE Tryz.prog jQ [.agg (bE x), .int .i64 n] s (.int .i64 (fj x n)) s:=by
 intro m
 induction m with
 | zero=>rintro⟨op,v,name,kids⟩ h;simp only [Ex.size]at h;omega
 | succ m ih=>
  rintro⟨op,v,name,kids⟩ e9 n h0 h1 s
  refine aE.pure ?_ (by simp [D.bR,D.ok,gN]) rfl s
  simp only [Ex.size]at e9
  have hk : ∀ y∈kids,∀ {n:Int},0≤n→n≤20000→∀ s:St,aE Tryz.prog jQ [.agg (bE y), .int .i64 n] s (.int .i64 (fj y n)) s:=fun y hy=>ih y (by have:=Ex.bV hy;omega)
  have ht:=fun s=>qq name h0 (by omega) s
  obtain⟨t1,t2,t3,t4⟩:=l5 (t:=name) h0
  unfold S0
  generalize h:fj ⟨op,v,name,kids⟩ n=p
  simp only [fj]at h
  refine aE.go As rfl fun B Q hB hQ=> ?_
  have⟨hF,hP,hY,hZ⟩:=bq
  repeat' (first
 | simp only [go_sem,hF,hP,hY,hZ]
 | (with_reducible refine CU (ht _) ?_)
 | (with_reducible first | refine bK fun hc=> ?_ | refine bL fun hc=> ?_ | refine bM (fun hc=> ?_) fun hc=> ?_) <;> (try simp only [hc,bs, ↓reduceIte]at h) <;> try simp only [hc]
 | (with_reducible refine aC hQ ?_;(try cases h);simp only [au,aw,bu,bw,go_sem,hF,hP,hY,hZ];repeat' (first | exact Ok.out | with_reducible refine aB ?_ ?_ | (simp;done))))
  refine cd 1 0 (a8.ind (ι:=List Ex×Nat×Int) (fun i=>kids.drop i.2.1=i.1∧ni i.1 i.2.2=p∧(i.2.1:Int)≤i.2.2∧i.2.2≤20001) (fun i=>i.1.length)
   (fun i=> [(1, .int .i64 i.2.2),(2, .ptr 0 0),(5, .int .i64 (i.2.1:Int))]) (fun i=>⟨[bE ⟨op,v,name,kids⟩],[]⟩) ?_ (kids,0,c7 name n) ⟨rfl,h,t3,t1⟩)
  rintro⟨rest,k,c⟩ ⟨g1,h,g3,g4⟩ IH
  dsimp only at g1 h g3 g4
  cases rest with
  | nil=>
   have hF:=drop_nil g1
   simp only [ni]at h
   repeat' (first
 | simp only [go_sem,hF,hP,hY,hZ]
 | (with_reducible first | refine bK fun hc=> ?_ | refine bL fun hc=> ?_ | refine bM (fun hc=> ?_) fun hc=> ?_) <;> (try simp only [hc,bs, ↓reduceIte]at h) <;> try simp only [hc]
 | (with_reducible refine aC hQ ?_;(try cases h);simp only [au,aw,bu,bw,go_sem,hF,hP,hY,hZ];repeat' (first | exact Ok.out | with_reducible refine aB ?_ ?_ | (simp;done))))
  | cons y rest=>
   obtain⟨hP,g2,hF,g5⟩:=drop_cons g1
   simp only [ni]at h
   by_cases hc:c≤20000
   ·have c1:decide (c≤20000)=true:=by simp;omega
    have hy:=fun s=>hk y (List.mem_of_getElem? hP) (n:=c) (by omega) hc s
    obtain⟨a1,a2,a3,a4⟩:=vw _ y (Nat.le_refl _) c (by omega)
    have:=a2 hc
    have w3:IntKind.wrap .i64 ((k:Int)+1)=((k+1:Nat):Int):=by rw [dc] <;> omega
    rw [if_pos hc]at h
    repeat' (first
 | simp only [go_sem,hF,hP,hY,hZ,c1,w3]
 | (with_reducible refine CU (hy _) ?_)
 | (with_reducible first | refine bK fun hc=> ?_ | refine bL fun hc=> ?_ | refine bM (fun hc=> ?_) fun hc=> ?_) <;> (try simp only [hc,bs, ↓reduceIte]at h) <;> try simp only [hc]
 | (with_reducible refine aC hQ ?_;(try cases h);simp only [au,aw,bu,bw,go_sem,hF,hP,hY,hZ,c1,w3];repeat' (first | exact Ok.out | with_reducible refine aB ?_ ?_ | (simp;done))))
    refine cd 1 0 (IH (rest,k+1,fj y c) ⟨g2,h,by dsimp only;omega,a1⟩ (Nat.lt_succ_self _))
   ·have c1:decide (c≤20000)=false:=by simp;omega
    rw [if_neg hc]at h
    repeat' (first
 | simp only [go_sem,hF,hP,hY,hZ,c1]
 | (with_reducible first | refine bK fun hc=> ?_ | refine bL fun hc=> ?_ | refine bM (fun hc=> ?_) fun hc=> ?_) <;> (try simp only [hc,bs, ↓reduceIte]at h) <;> try simp only [hc]
 | (with_reducible refine aC hQ ?_;(try cases h);simp only [au,aw,bu,bw,go_sem,hF,hP,hY,hZ,c1];repeat' (first | exact Ok.out | with_reducible refine aB ?_ ?_ | (simp;done))))
end Go.Abs

/-! Fits1 -/

namespace Go.Abs
set_option maxRecDepth 8000
open Go.Proofs
def dR:List aF→Int→Int
 | [],n=>n
 | t::l,n=>if n≤20000 then dR l (c7 t n)else n
def iD:List Ar→Int→Int
 | [],n=>n
 | a::l,n=>if n≤20000 then iD l (c7 a.name (fj a.x n))else n
def kv:List Pm→Int→Int
 | [],n=>n
 | a::l,n=>if n≤20000 then kv l (c7 a.name n)else n
mutual
def rp:Sm→Int→Int
 | ⟨_,_,labels,name,proc,x,_,args,aZ,aP⟩,n=>fG aP (fG aZ (iD args (c7 proc (c7 name (dR labels (fj x n))))))
def fG:List Sm→Int→Int
 | [],n=>n
 | s::l,n=>if n≤20000 then fG l (rp s n)else n
end
theorem Ri (s:Sm) (n:Int):rp s n=fG s.aP (fG s.aZ (iD s.args (c7 s.proc (c7 s.name (dR s.labels (fj s.x n)))))):=by cases s;simp only [rp]
def sX (f:Pc) (n:Int):Int:=fG f.body (kv f.params (dR f.fin (dR f.vars (c7 f.name n))))
def nj:List Pc→Int→Int
 | [],n=>n
 | f::l,n=>if n≤20000 then nj l (sX f n)else n
def Pg.Bv (p:Pg):Int:=nj p.procs (dR p.globals 0)
theorem kN : ∀ (l:List aF) {n:Int},0≤n→n≤20001→dR l n≤20001∧n≤dR l n∧(dR l n≤20000→n+l.length≤dR l n∧∀ t∈l,t.length<4611686018427387904)
 | [],n,h0,h1=>by simp only [dR];exact⟨h1,Int.le_refl _,fun _=>⟨by simp,by simp⟩⟩
 | t::l,n,h0,h1=>by
  simp only [dR]
  split
  ·rename_i hc
   obtain⟨a1,a2,a3,a4⟩:=l5 (t:=t) h0
   obtain⟨b1,b2,b3⟩:=kN l (n:=c7 t n) a3 a1
   have:=a2 hc
   refine⟨b1,by omega,fun hw=> ?_⟩
   obtain⟨c1,c2⟩:=b3 hw
   have:=a4 (by omega)
   refine⟨by simp only [List.length_cons];omega,fun s m=> ?_⟩
   rcases List.mem_cons.1 m with rfl | m
   ·omega
   ·exact c2 s m
  ·exact⟨h1,Int.le_refl _,fun hw=>by omega⟩
theorem yX : ∀ (l:List Pm) {n:Int},0≤n→n≤20001→kv l n≤20001∧n≤kv l n∧(kv l n≤20000→n+l.length≤kv l n∧∀ t∈l,t.name.length<4611686018427387904)
 | [],n,h0,h1=>by simp only [kv];exact⟨h1,Int.le_refl _,fun _=>⟨by simp,by simp⟩⟩
 | t::l,n,h0,h1=>by
  simp only [kv]
  split
  ·rename_i hc
   obtain⟨a1,a2,a3,a4⟩:=l5 (t:=t.name) h0
   obtain⟨b1,b2,b3⟩:=yX l (n:=c7 t.name n) a3 a1
   have:=a2 hc
   refine⟨b1,by omega,fun hw=> ?_⟩
   obtain⟨c1,c2⟩:=b3 hw
   have:=a4 (by omega)
   refine⟨by simp only [List.length_cons];omega,fun s m=> ?_⟩
   rcases List.mem_cons.1 m with rfl | m
   ·omega
   ·exact c2 s m
  ·exact⟨h1,Int.le_refl _,fun hw=>by omega⟩
theorem yY : ∀ (l:List Ar) {n:Int},0≤n→n≤20001→iD l n≤20001∧n≤iD l n∧
 (iD l n≤20000→(Ar.aS l:Int)≤2*(iD l n - n)∧∀ a∈l,a.x.size<4611686018427387904∧a.x.texts∧a.name.length<4611686018427387904)
 | [],n,h0,h1=>by simp only [iD];exact⟨h1,Int.le_refl _,fun _=>⟨by simp [Ar.aS],by simp⟩⟩
 | a::l,n,h0,h1=>by
  simp only [iD]
  split
  ·rename_i hc
   obtain⟨a1,a2,a3,a4⟩:=vw _ a.x (Nat.le_refl _) n h0
   obtain⟨e1,e2,e3,e4⟩:=l5 (t:=a.name) a3
   obtain⟨b1,b2,b3⟩:=yY l (n:=c7 a.name (fj a.x n)) e3 e1
   have:=a2 hc
   have:fj a.x n≤c7 a.name (fj a.x n):=by
    by_cases h:fj a.x n≤20000
    ·have:=e2 h;omega
    ·have:c7 a.name (fj a.x n)=20001:=by unfold c7;rw [if_pos (by omega)]
     omega
   refine⟨b1,by omega,fun hw=> ?_⟩
   obtain⟨c1,c2⟩:=b3 hw
   have:=e4 (by omega)
   obtain⟨d1,d2⟩:=a4 (by omega)
   refine⟨by simp only [Ar.aS];omega,fun s m=> ?_⟩
   rcases List.mem_cons.1 m with rfl | m
   ·exact⟨by omega,d2,by omega⟩
   ·exact c2 s m
  ·exact⟨h1,Int.le_refl _,fun hw=>by omega⟩
theorem kV {t:aF} {n:Int} (h0:0≤n) (h1:n≤20001):n≤c7 t n∧c7 t n≤20001∧(c7 t n≤20000→n+1≤c7 t n∧t.length<4611686018427387904):=by
 obtain⟨e1,e2,e3,e4⟩:=l5 (t:=t) h0
 by_cases h:n≤20000
 ·have:=e2 h
  exact⟨by omega,e1,fun hw=>⟨by omega,by have:=e4 hw;omega⟩⟩
 ·have:c7 t n=20001:=by unfold c7;rw [if_pos (by omega)]
  exact⟨by omega,e1,fun hw=>by omega⟩
mutual
theorem Gr : ∀ (s:Sm) {n:Int},0≤n→n≤20000→rp s n≤20001∧n+1≤rp s n∧(rp s n≤20000→(s.size:Int)+1≤2*(rp s n - n)∧s.sw)
 | ⟨id,kind,labels,name,proc,x,has,args,aZ,aP⟩,n,h0,h1=>by
  obtain⟨a1,a2,a3,a4⟩:=vw _ x (Nat.le_refl _) n h0
  have a2:=a2 h1
  obtain⟨b1,b2,b3⟩:=kN labels a3 a1
  obtain⟨c1,c2,c3⟩:=kV (t:=name) (n:=dR labels (fj x n)) (by omega) b1
  obtain⟨d1,d2,d3⟩:=kV (t:=proc) (n:=c7 name (dR labels (fj x n))) (by omega) c2
  obtain⟨e1,e2,e3⟩:=yY args (n:=c7 proc (c7 name (dR labels (fj x n)))) (by omega) d2
  obtain⟨f1,f2,f3⟩:=rq aZ (n:=iD args (c7 proc (c7 name (dR labels (fj x n))))) (by omega) e1
  obtain⟨g1,g2,g3⟩:=rq aP (n:=fG aZ (iD args (c7 proc (c7 name (dR labels (fj x n)))))) (by omega) f1
  simp only [rp,Sm.size]
  refine⟨g1,by omega,fun hw=> ?_⟩
  obtain⟨g4,g5⟩:=g3 hw
  obtain⟨f4,f5⟩:=f3 (by omega)
  obtain⟨e4,e5⟩:=e3 (by omega)
  obtain⟨d4,d5⟩:=d3 (by omega)
  obtain⟨c4,c5⟩:=c3 (by omega)
  obtain⟨b4,b5⟩:=b3 (by omega)
  obtain⟨a5,a6⟩:=a4 (by omega)
  have:=Ar.cZ args
  refine⟨by omega, ?_⟩
  rw [Cv]
  exact⟨⟨b5,by dsimp only;omega,c5,d5,by dsimp only;omega,a6,by dsimp only;omega,e5⟩,f5,g5⟩
theorem rq : ∀ (l:List Sm) {n:Int},0≤n→n≤20001→fG l n≤20001∧n≤fG l n∧(fG l n≤20000→(Sm.aS l:Int)≤2*(fG l n - n)∧Sm.iZ l)
 | [],n,h0,h1=>by simp only [fG];exact⟨h1,Int.le_refl _,fun _=>⟨by simp [Sm.aS],by simp only [Sm.iZ]⟩⟩
 | s::l,n,h0,h1=>by
  simp only [fG]
  split
  ·rename_i hc
   obtain⟨a1,a2,a3⟩:=Gr s h0 hc
   obtain⟨b1,b2,b3⟩:=rq l (n:=rp s n) (by omega) a1
   refine⟨b1,by omega,fun hw=> ?_⟩
   obtain⟨c1,c2⟩:=b3 hw
   obtain⟨d1,d2⟩:=a3 (by omega)
   exact⟨by simp only [Sm.aS];omega,d2,c2⟩
  ·exact⟨h1,Int.le_refl _,fun hw=>by omega⟩
end
theorem Gs (f:Pc) {n:Int} (h0:0≤n) (h1:n≤20000):sX f n≤20001∧n+1≤sX f n∧(sX f n≤20000→(f.size:Int)+1≤2*(sX f n - n)∧
 (f.name.length<4611686018427387904∧(∀ t∈f.vars,t.length<4611686018427387904)∧(∀ t∈f.fin,t.length<4611686018427387904)∧∀ a∈f.params,a.name.length<4611686018427387904)∧Sm.iZ f.body):=by
 obtain⟨c1,c2,c3⟩:=kV (t:=f.name) h0 (by omega:n≤20001)
 have c4:=(l5 (t:=f.name) h0).2.1 h1
 obtain⟨d1,d2,d3⟩:=kN f.vars (n:=c7 f.name n) (by omega) c2
 obtain⟨e1,e2,e3⟩:=kN f.fin (n:=dR f.vars (c7 f.name n)) (by omega) d1
 obtain⟨g1,g2,g3⟩:=yX f.params (n:=dR f.fin (dR f.vars (c7 f.name n))) (by omega) e1
 obtain⟨k1,k2,k3⟩:=rq f.body (n:=kv f.params (dR f.fin (dR f.vars (c7 f.name n)))) (by omega) g1
 unfold sX Pc.size
 refine⟨k1,by omega,fun hw=> ?_⟩
 obtain⟨k4,k5⟩:=k3 hw
 obtain⟨g4,g5⟩:=g3 (by omega)
 obtain⟨e4,e5⟩:=e3 (by omega)
 obtain⟨d4,d5⟩:=d3 (by omega)
 obtain⟨_,c5⟩:=c3 (by omega)
 exact⟨by omega,⟨c5,d5,e5,g5⟩,k5⟩
theorem DY : ∀ (l:List Pc) {n:Int},0≤n→n≤20001→nj l n≤20001∧n≤nj l n∧(nj l n≤20000→(Pc.aS l:Int)≤2*(nj l n - n)∧∀ f∈l,
 (f.name.length<4611686018427387904∧(∀ t∈f.vars,t.length<4611686018427387904)∧(∀ t∈f.fin,t.length<4611686018427387904)∧∀ a∈f.params,a.name.length<4611686018427387904)∧Sm.iZ f.body)
 | [],n,h0,h1=>by simp only [nj];exact⟨h1,Int.le_refl _,fun _=>⟨by simp [Pc.aS],by simp⟩⟩
 | f::l,n,h0,h1=>by
  simp only [nj]
  split
  ·rename_i hc
   obtain⟨a1,a2,a3⟩:=Gs f h0 hc
   obtain⟨b1,b2,b3⟩:=DY l (n:=sX f n) (by omega) a1
   refine⟨b1,by omega,fun hw=> ?_⟩
   obtain⟨c1,c2⟩:=b3 hw
   obtain⟨d1,d2⟩:=a3 (by omega)
   refine⟨by simp only [Pc.aS];omega,fun s m=> ?_⟩
   rcases List.mem_cons.1 m with rfl | m
   ·exact d2
   ·exact c2 s m
  ·exact⟨h1,Int.le_refl _,fun hw=>by omega⟩
theorem Og {p:Pg} (h:p.Bv≤20000):p.size≤40001∧p.DD:=by
 unfold Pg.Bv at h
 obtain⟨a1,a2,a3⟩:=kN p.globals (n:=0) (by omega) (by omega)
 obtain⟨b1,b2,b3⟩:=DY p.procs (n:=dR p.globals 0) (by omega) a1
 obtain⟨c1,c2⟩:=b3 h
 obtain⟨d1,d2⟩:=a3 (by omega)
 have:p.size≤40001:=by unfold Pg.size;omega
 exact⟨this,by omega,d2,fun f m=>(c2 f m).1,fun f m=>(c2 f m).2⟩
theorem wF {l:List aF} {n:Int} (h0:0≤n) (h1:n≤20001) (s:St):aE Tryz.prog ju [.slice .shared 1 (l.map encStr), .int .i64 n] s (.int .i64 (dR l n)) s:=by
 refine aE.pure ?_ (by simp [D.bR,D.ok,dJ,Tag.ok]) rfl s
 unfold S0
 generalize h:dR l n=p
 refine aE.go zA rfl fun B Q hB hQ=> ?_
 have⟨hF,hP,hY,hZ⟩:=bq
 repeat' (first
 | simp only [go_sem,hF,hP,hY,hZ]
 | (with_reducible refine aC hQ ?_;simp only [au,aw,Option.some.injEq,exists_eq_left',go_sem,hF,hP,hY,hZ];repeat' (first | exact Ok.out | with_reducible refine aB ?_ ?_ | (simp;done))))
 refine cd 0 0 (a8.ind (ι:=List aF×Nat×Int) (fun i=>l.drop i.2.1=i.1∧dR i.1 i.2.2=p∧(i.2.1:Int)≤i.2.2∧i.2.2≤20001) (fun i=>i.1.length)
  (fun i=> [(0, .slice .shared 1 (l.map encStr)),(1, .int .i64 i.2.2),(5, .int .i64 (i.2.1:Int))]) (fun i=>⟨[],[]⟩) ?_ (l,0,n) ⟨rfl,h,h0,h1⟩)
 rintro⟨rest,k,c⟩ ⟨g1,h,g3,g4⟩ IH
 dsimp only at g1 h g3 g4
 cases rest with
 | nil=>
  have hF:=drop_nil g1
  simp only [dR]at h
  subst h
  repeat' (first
 | simp only [go_sem,hF,hP,hY,hZ]
 | (with_reducible refine aC hQ ?_;simp only [au,aw,Option.some.injEq,exists_eq_left',go_sem,hF,hP,hY,hZ];repeat' (first | exact Ok.out | with_reducible refine aB ?_ ?_ | (simp;done))))
 | cons y rest=>
  obtain⟨hP,g2,hF,g5⟩:=drop_cons g1
  simp only [dR]at h
  by_cases hc:c≤20000
  ·have c1:decide (c≤20000)=true:=by simp;omega
   have hy:=fun s=>qq y (n:=c) (by omega) g4 s
   obtain⟨a1,a2,a3,a4⟩:=l5 (t:=y) (n:=c) (by omega)
   have:=a2 hc
   have w3:IntKind.wrap .i64 ((k:Int)+1)=((k+1:Nat):Int):=by rw [dc] <;> omega
   rw [if_pos hc]at h
   repeat' (first
 | simp only [go_sem,hF,hP,hY,hZ,c1,w3]
 | (with_reducible refine CU (hy _) ?_)
 | (with_reducible refine aC hQ ?_;simp only [au,aw,Option.some.injEq,exists_eq_left',go_sem,hF,hP,hY,hZ];repeat' (first | exact Ok.out | with_reducible refine aB ?_ ?_ | (simp;done))))
   refine cd 0 0 (IH (rest,k+1,c7 y c) ⟨g2,h,by dsimp only;omega,a1⟩ (Nat.lt_succ_self _))
  ·have c1:decide (c≤20000)=false:=by simp;omega
   rw [if_neg hc]at h
   subst h
   repeat' (first
 | simp only [go_sem,hF,hP,hY,hZ,c1]
 | (with_reducible refine aC hQ ?_;simp only [au,aw,Option.some.injEq,exists_eq_left',go_sem,hF,hP,hY,hZ];repeat' (first | exact Ok.out | with_reducible refine aB ?_ ?_ | (simp;done))))
theorem Rj : ∀ (m:Nat) (l:List Sm),Sm.aS l≤m→∀ {n:Int},0≤n→n≤20001→∀ s:St,aE Tryz.prog kD [.slice .shared 13 (l.map bd), .int .i64 n] s (.int .i64 (fG l n)) s:=by
 intro m
 induction m with
 | zero=>
  intro l h n h0 h1 s
  cases l with
  | nil=>
   have z:decide ((0:Int)<0)=false:=rfl
   refine aE.pure ?_ (by simp [D.bR,D.ok,D.ji,Tag.ok]) rfl s
   unfold S0
   simp only [fG]
   refine aE.go rC rfl fun B Q hB hQ=> ?_
   have⟨hF,hP,hY,hZ⟩:=bq
   repeat' (first
 | simp only [go_sem,hF,hP,hY,hZ,z]
 | (with_reducible refine a8.sj ?_)
 | (with_reducible refine aC hQ ?_;simp only [au,aw,Option.some.injEq,exists_eq_left',go_sem,hF,hP,hY,hZ];repeat' (first | exact Ok.out | with_reducible refine aB ?_ ?_ | (simp;done))))
  | cons s l=>simp only [Sm.aS]at h;omega
 | succ m ih=>
  intro l h n h0 h1 s
  refine aE.pure ?_ (by simp [D.bR,D.ok,mF,Tag.ok]) rfl s
  unfold S0
  generalize hp:fG l n=p
  refine aE.go rC rfl fun B Q hB hQ=> ?_
  have⟨hF,hP,hY,hZ⟩:=bq
  repeat' (first
 | simp only [go_sem,hF,hP,hY,hZ]
 | (with_reducible refine aC hQ ?_;simp only [au,aw,Option.some.injEq,exists_eq_left',go_sem,hF,hP,hY,hZ];repeat' (first | exact Ok.out | with_reducible refine aB ?_ ?_ | (simp;done))))
  refine cd 0 0 (a8.ind (ι:=List Sm×Nat×Int) (fun i=>l.drop i.2.1=i.1∧fG i.1 i.2.2=p∧(i.2.1:Int)≤i.2.2∧i.2.2≤20001) (fun i=>i.1.length)
   (fun i=> [(0, .slice .shared 13 (l.map bd)),(1, .int .i64 i.2.2),(5, .int .i64 (i.2.1:Int))]) (fun i=>⟨[],[]⟩) ?_ (l,0,n) ⟨rfl,hp,h0,h1⟩)
  rintro⟨rest,k,c⟩ ⟨g1,hp,g3,g4⟩ IH
  dsimp only at g1 hp g3 g4
  cases rest with
  | nil=>
   have hF:=drop_nil g1
   simp only [fG]at hp
   subst hp
   repeat' (first
 | simp only [go_sem,hF,hP,hY,hZ]
 | (with_reducible refine aC hQ ?_;simp only [au,aw,Option.some.injEq,exists_eq_left',go_sem,hF,hP,hY,hZ];repeat' (first | exact Ok.out | with_reducible refine aB ?_ ?_ | (simp;done))))
  | cons y rest=>
   obtain⟨hP,g2,hF,g5⟩:=drop_cons g1
   simp only [fG]at hp
   by_cases hc:c≤20000
   ·have c1:decide (c≤20000)=true:=by simp;omega
    have oe:=List.mem_of_getElem? hP
    have e9:=Sm.bV oe
    have ao3:s.aG.length≤s.aG.length∧Sm.aS y.aZ<y.size∧Sm.aS y.aP<y.size:=by cases y;simp only [Sm.size];omega
    have w3:IntKind.wrap .i64 ((k:Int)+1)=((k+1:Nat):Int):=by rw [dc] <;> omega
    rw [if_pos hc]at hp
    obtain⟨a1,a2,a3,a4⟩:=vw _ y.x (Nat.le_refl _) c (by omega)
    have a2:=a2 hc
    obtain⟨b1,b2,b3⟩:=kN y.labels a3 a1
    obtain⟨c1',c2,c3⟩:=kV (t:=y.name) (n:=dR y.labels (fj y.x c)) (by omega) b1
    obtain⟨d1,d2,d3⟩:=kV (t:=y.proc) (n:=c7 y.name (dR y.labels (fj y.x c))) (by omega) c2
    have eE:=fun s=>JJ _ y.x (Nat.le_refl _) (n:=c) (by omega) hc s
    have eL:=fun s=>wF (l:=y.labels) (n:=fj y.x c) (by omega) a1 s
    have eN:=fun s=>qq y.name (n:=dR y.labels (fj y.x c)) (by omega) b1 s
    have eP:=fun s=>qq y.proc (n:=c7 y.name (dR y.labels (fj y.x c))) (by omega) c2 s
    obtain⟨r1,r2,r3⟩:=Gr y (n:=c) (by omega) hc
    rw [Ri]at hp r1 r2
    generalize hC:c7 y.proc (c7 y.name (dR y.labels (fj y.x c)))=C at *
    obtain⟨s1,s2,s3⟩:=yY y.args (n:=C) (by omega) d2
    obtain⟨t1,t2,t3⟩:=rq y.aZ (n:=iD y.args C) (by omega) s1
    have eT:=fun s=>ih y.aZ (by omega) (n:=iD y.args C) (by omega) s1 s
    have eS:=fun s=>ih y.aP (by omega) (n:=fG y.aZ (iD y.args C)) (by omega) t1 s
    generalize hW:iD y.args C=W at *
    repeat' (first
 | simp only [go_sem,hF,hP,hY,hZ,c1,w3]
 | (with_reducible refine CU (eE _) ?_)
 | (with_reducible refine CU (eL _) ?_)
 | (with_reducible refine CU (eN _) ?_)
 | (with_reducible refine CU (eP _) ?_)
 | (with_reducible refine aC hQ ?_;simp only [au,aw,Option.some.injEq,exists_eq_left',go_sem,hF,hP,hY,hZ];repeat' (first | exact Ok.out | with_reducible refine aB ?_ ?_ | (simp;done))))
    refine cd 1 0 (a8.ind (ι:=List Ar×Nat×Int) (fun i=>y.args.drop i.2.1=i.1∧iD i.1 i.2.2=W∧(i.2.1:Int)≤i.2.2∧i.2.2≤20001) (fun i=>i.1.length)
     (fun i=> [(0, .slice .shared 13 (l.map bd)),(1, .int .i64 i.2.2),(5, .int .i64 (k:Int)),(6, .ptr 0 0),(7, .int .i64 (i.2.1:Int))]) (fun i=>⟨[bd y],[]⟩) ?_ (y.args,0,C) ⟨rfl,hW,by dsimp only;omega,d2⟩)
    rintro⟨ars,j,e⟩ ⟨k1,hw,k3,k4⟩ p7
    dsimp only at k1 hw k3 k4
    cases ars with
    | nil=>
     have hF:=drop_nil k1
     simp only [iD]at hw
     subst hw
     repeat' (first
 | simp only [go_sem,hF,hP,hY,hZ,w3]
 | (with_reducible refine CU (eT _) ?_)
 | (with_reducible refine CU (eS _) ?_)
 | (with_reducible refine aC hQ ?_;simp only [au,aw,Option.some.injEq,exists_eq_left',go_sem,hF,hP,hY,hZ];repeat' (first | exact Ok.out | with_reducible refine aB ?_ ?_ | (simp;done))))
     refine cd 0 0 (IH (rest,k+1,fG y.aP (fG y.aZ e)) ⟨g2,hp,by dsimp only;omega,r1⟩ (Nat.lt_succ_self _))
    | cons a ars=>
     obtain⟨hP,k2,hF,k5⟩:=drop_cons k1
     simp only [iD]at hw
     by_cases he:e≤20000
     ·have e1:decide (e≤20000)=true:=by simp;omega
      have w4:IntKind.wrap .i64 ((j:Int)+1)=((j+1:Nat):Int):=by rw [dc] <;> omega
      rw [if_pos he]at hw
      obtain⟨u1,u2,u3,u4⟩:=vw _ a.x (Nat.le_refl _) e (by omega)
      have u2:=u2 he
      obtain⟨v1,v2,v3⟩:=kV (t:=a.name) (n:=fj a.x e) u3 u1
      have eX:=fun s=>JJ _ a.x (Nat.le_refl _) (n:=e) (by omega) he s
      have eM:=fun s=>qq a.name (n:=fj a.x e) u3 u1 s
      repeat' (first
 | simp only [go_sem,hF,hP,hY,hZ,e1,w4]
 | (with_reducible refine CU (eX _) ?_)
 | (with_reducible refine CU (eM _) ?_)
 | (with_reducible refine aC hQ ?_;simp only [au,aw,Option.some.injEq,exists_eq_left',go_sem,hF,hP,hY,hZ];repeat' (first | exact Ok.out | with_reducible refine aB ?_ ?_ | (simp;done))))
      refine cd 1 0 (p7 (ars,j+1,c7 a.name (fj a.x e)) ⟨k2,hw,by dsimp only;omega,v2⟩ (Nat.lt_succ_self _))
     ·have e1:decide (e≤20000)=false:=by simp;omega
      rw [if_neg he]at hw
      subst hw
      repeat' (first
 | simp only [go_sem,hF,hP,hY,hZ,e1,w3]
 | (with_reducible refine CU (eT _) ?_)
 | (with_reducible refine CU (eS _) ?_)
 | (with_reducible refine aC hQ ?_;simp only [au,aw,Option.some.injEq,exists_eq_left',go_sem,hF,hP,hY,hZ];repeat' (first | exact Ok.out | with_reducible refine aB ?_ ?_ | (simp;done))))
      refine cd 0 0 (IH (rest,k+1,fG y.aP (fG y.aZ e)) ⟨g2,hp,by dsimp only;omega,r1⟩ (Nat.lt_succ_self _))
   ·have c1:decide (c≤20000)=false:=by simp;omega
    rw [if_neg hc]at hp
    subst hp
    repeat' (first
 | simp only [go_sem,hF,hP,hY,hZ,c1]
 | (with_reducible refine aC hQ ?_;simp only [au,aw,Option.some.injEq,exists_eq_left',go_sem,hF,hP,hY,hZ];repeat' (first | exact Ok.out | with_reducible refine aB ?_ ?_ | (simp;done))))
end Go.Abs

/-! Fits2 -/

namespace Go.Abs
set_option maxRecDepth 8000
open Go.Proofs
theorem abu (p:Pg) (s:St):aE Tryz.prog wS [.agg (bH p)] s (.bool (decide (p.Bv≤20000))) s:=by
 refine aE.pure ?_ (by simp only [D.bR,D.ok,fX];rfl) rfl s
 unfold S0
 generalize hp:p.Bv=W
 unfold Pg.Bv at hp
 obtain⟨a1,a2,a3⟩:=kN p.globals (n:=0) (by omega) (by omega)
 have eG:=fun s=>wF (l:=p.globals) (n:=0) (by omega) (by omega) s
 refine aE.go GD rfl fun B Q hB hQ=> ?_
 have⟨hF,hP,hY,hZ⟩:=bq
 repeat' (first
 | simp only [go_sem,hF,hP,hY,hZ]
 | (with_reducible refine CU (eG _) ?_)
 | (with_reducible refine aC hQ ?_;simp only [au,aw,bu,bw,go_sem,hF,hP,hY,hZ];repeat' (first | exact Ok.out | with_reducible refine aB ?_ ?_ | (simp;done))))
 refine cd 1 0 (a8.ind (ι:=List Pc×Nat×Int) (fun i=>p.procs.drop i.2.1=i.1∧nj i.1 i.2.2=W∧(i.2.1:Int)≤i.2.2∧i.2.2≤20001) (fun i=>i.1.length)
  (fun i=> [(1, .ptr 0 0),(3, .int .i64 i.2.2),(4, .int .i64 (i.2.1:Int))]) (fun i=>⟨[bH p],[]⟩) ?_ (p.procs,0,dR p.globals 0) ⟨rfl,hp,a2,a1⟩)
 rintro⟨rest,k,c⟩ ⟨g1,hp,g3,g4⟩ IH
 dsimp only at g1 hp g3 g4
 cases rest with
 | nil=>
  have hF:=drop_nil g1
  simp only [nj]at hp
  subst hp
  repeat' (first
 | simp only [go_sem,hF,hP,hY,hZ]
 | (with_reducible refine aC hQ ?_;simp only [au,aw,bu,bw,go_sem,hF,hP,hY,hZ];repeat' (first | exact Ok.out | with_reducible refine aB ?_ ?_ | (simp;done))))
 | cons f rest=>
  obtain⟨hP,g2,hF,g5⟩:=drop_cons g1
  simp only [nj]at hp
  by_cases hc:c≤20000
  ·have c1:decide (c≤20000)=true:=by simp;omega
   have w3:IntKind.wrap .i64 ((k:Int)+1)=((k+1:Nat):Int):=by rw [dc] <;> omega
   rw [if_pos hc]at hp
   obtain⟨r1,r2,r3⟩:=Gs f (n:=c) (by omega) hc
   unfold sX at hp r1 r2
   obtain⟨c1',c2,c3⟩:=kV (t:=f.name) (n:=c) (by omega) g4
   obtain⟨d1,d2,d3⟩:=kN f.vars (n:=c7 f.name c) (by omega) c2
   obtain⟨e1,e2,e3⟩:=kN f.fin (n:=dR f.vars (c7 f.name c)) (by omega) d1
   have eN:=fun s=>qq f.name (n:=c) (by omega) g4 s
   have eV:=fun s=>wF (l:=f.vars) (n:=c7 f.name c) (by omega) c2 s
   have eF:=fun s=>wF (l:=f.fin) (n:=dR f.vars (c7 f.name c)) (by omega) d1 s
   generalize hC:dR f.fin (dR f.vars (c7 f.name c))=C at *
   obtain⟨s1,s2,s3⟩:=yX f.params (n:=C) (by omega) e1
   have eT:=fun s=>Rj _ f.body (Nat.le_refl _) (n:=kv f.params C) (by omega) s1 s
   generalize hM:kv f.params C=M at *
   repeat' (first
 | simp only [go_sem,hF,hP,hY,hZ,c1,w3]
 | (with_reducible refine CU (eN _) ?_)
 | (with_reducible refine CU (eV _) ?_)
 | (with_reducible refine CU (eF _) ?_)
 | (with_reducible refine aC hQ ?_;simp only [au,aw,bu,bw,go_sem,hF,hP,hY,hZ];repeat' (first | exact Ok.out | with_reducible refine aB ?_ ?_ | (simp;done))))
   refine cd 2 0 (a8.ind (ι:=List Pm×Nat×Int) (fun i=>f.params.drop i.2.1=i.1∧kv i.1 i.2.2=M∧(i.2.1:Int)≤i.2.2∧i.2.2≤20001) (fun i=>i.1.length)
    (fun i=> [(1, .ptr 0 0),(3, .int .i64 i.2.2),(4, .int .i64 (k:Int)),(5, .ptr 1 0),(6, .int .i64 (i.2.1:Int))]) (fun i=>⟨[bH p,cb f],[]⟩) ?_ (f.params,0,C) ⟨rfl,hM,by dsimp only;omega,e1⟩)
   rintro⟨ms,j,e⟩ ⟨k1,hw,k3,k4⟩ p7
   dsimp only at k1 hw k3 k4
   cases ms with
   | nil=>
    have hF:=drop_nil k1
    simp only [kv]at hw
    subst hw
    repeat' (first
 | simp only [go_sem,hF,hP,hY,hZ,w3]
 | (with_reducible refine CU (eT _) ?_)
 | (with_reducible refine aC hQ ?_;simp only [au,aw,bu,bw,go_sem,hF,hP,hY,hZ];repeat' (first | exact Ok.out | with_reducible refine aB ?_ ?_ | (simp;done))))
    refine cd 1 0 (IH (rest,k+1,fG f.body e) ⟨g2,hp,by dsimp only;omega,r1⟩ (Nat.lt_succ_self _))
   | cons a ms=>
    obtain⟨hP,k2,hF,k5⟩:=drop_cons k1
    simp only [kv]at hw
    by_cases he:e≤20000
    ·have e1:decide (e≤20000)=true:=by simp;omega
     have w4:IntKind.wrap .i64 ((j:Int)+1)=((j+1:Nat):Int):=by rw [dc] <;> omega
     rw [if_pos he]at hw
     obtain⟨v1,v2,v3⟩:=kV (t:=a.name) (n:=e) (by omega) k4
     have v4:=(l5 (t:=a.name) (n:=e) (by omega)).2.1 he
     have eM:=fun s=>qq a.name (n:=e) (by omega) k4 s
     repeat' (first
 | simp only [go_sem,hF,hP,hY,hZ,e1,w4]
 | (with_reducible refine CU (eM _) ?_)
 | (with_reducible refine aC hQ ?_;simp only [au,aw,bu,bw,go_sem,hF,hP,hY,hZ];repeat' (first | exact Ok.out | with_reducible refine aB ?_ ?_ | (simp;done))))
     refine cd 2 0 (p7 (ms,j+1,c7 a.name e) ⟨k2,hw,by dsimp only;omega,v2⟩ (Nat.lt_succ_self _))
    ·have e1:decide (e≤20000)=false:=by simp;omega
     rw [if_neg he]at hw
     subst hw
     repeat' (first
 | simp only [go_sem,hF,hP,hY,hZ,e1,w3]
 | (with_reducible refine CU (eT _) ?_)
 | (with_reducible first | refine bK fun hc=> ?_ | refine bL fun hc=> ?_ | refine bM (fun hc=> ?_) fun hc=> ?_) <;> (try simp only [hc,bs, ↓reduceIte]at h) <;> try simp only [hc]
 | (with_reducible refine aC hQ ?_;simp only [au,aw,bu,bw,go_sem,hF,hP,hY,hZ,e1,w3];repeat' (first | exact Ok.out | with_reducible refine aB ?_ ?_ | (simp;done))))
     refine cd 1 0 (IH (rest,k+1,fG f.body e) ⟨g2,hp,by dsimp only;omega,r1⟩ (Nat.lt_succ_self _))
  ·have c1:decide (c≤20000)=false:=by simp;omega
   rw [if_neg hc]at hp
   subst hp
   repeat' (first
 | simp only [go_sem,hF,hP,hY,hZ,c1]
 | (with_reducible first | refine bK fun hc=> ?_ | refine bL fun hc=> ?_ | refine bM (fun hc=> ?_) fun hc=> ?_) <;> (try simp only [hc,bs, ↓reduceIte]at h) <;> try simp only [hc]
 | (with_reducible refine aC hQ ?_;simp only [au,aw,bu,bw,go_sem,hF,hP,hY,hZ,c1];repeat' (first | exact Ok.out | with_reducible refine aB ?_ ?_ | (simp;done))))
end Go.Abs

/-! MirEq -/

namespace Go.Abs
def abv:List aF→List aF→Bool
 | [],_=>true
 | _::_,[]=>true
 | x::l,y::l'=>if !(x==y)then false else abv l l'
def Wz (l l':List aF):Bool:=if(l.length:Int) != (l'.length:Int)then false else abv l l'
def Ar.pL:List Ar→List Ar→Bool
 | [],_=>true
 | _::_,[]=>true
 | a::l,b::l'=>if !(a.ref==b.ref) || !(a.name==b.name) || !(Ex.beq a.x b.x)then false else Ar.pL l l'
mutual
def Sm.beq:Sm→Sm→Bool
 | ⟨id,kind,labels,name,proc,x,has,args,aZ,aP⟩,⟨id',ael,X9,Nl,uu,x',aps,C5,abw,abx⟩=>
  if id != id' || kind != ael || !(name==Nl) || !(proc==uu) || !(has==aps) || !(Wz labels X9) || !(Ex.beq x x') || (args.length:Int) != (C5.length:Int)then false
  else if !(Ar.pL args C5)then false
  else if(if(aZ.length:Int) != (abw.length:Int)then false else Sm.pL aZ abw)then(if(aP.length:Int) != (abx.length:Int)then false else Sm.pL aP abx)else false
def Sm.pL:List Sm→List Sm→Bool
 | [],_=>true
 | _::_,[]=>true
 | s::l,t::l'=>if !(Sm.beq s t)then false else Sm.pL l l'
end
def Sm.aby (l l':List Sm):Bool:=if(l.length:Int) != (l'.length:Int)then false else Sm.pL l l'
def Pm.pL:List Pm→List Pm→Bool
 | [],_=>true
 | _::_,[]=>true
 | a::l,b::l'=>if !((a.name==b.name) && (a.ref==b.ref))then false else Pm.pL l l'
def Pc.pL:List Pc→List Pc→Bool
 | [],_=>true
 | _::_,[]=>true
 | f::l,g::l'=>
  if !(f.name==g.name) || (f.params.length:Int) != (g.params.length:Int) || !(Wz f.vars g.vars) || !(Wz f.fin g.fin) || !(Sm.aby f.body g.body)then false
  else if !(Pm.pL f.params g.params)then false else Pc.pL l l'
def Pg.beq (p q:Pg):Bool:=if !(Wz p.globals q.globals) || (p.procs.length:Int) != (q.procs.length:Int)then false else Pc.pL p.procs q.procs
end Go.Abs

/-! RefEq -/

namespace Go.Abs
set_option maxRecDepth 8000
open Go.Proofs
abbrev apI (N:Nat):Prop:=∀ s t:Sm,s.size<N→∀ st:St,aE Tryz.prog ID [.agg (bd s), .agg (bd t)] st (.bool (Sm.beq s t)) st
abbrev awS (N:Nat):Prop:=∀ l l':List Sm,Sm.aS l<N→∀ st:St,aE Tryz.prog Es [.slice .shared 13 (l.map bd), .slice .shared 13 (l'.map bd)] st (.bool (Sm.aby l l')) st
end Go.Abs

/-! RefEq2 -/

namespace Go.Abs
set_option maxRecDepth 8000
open Go.Proofs
def wG (n:Int):Ex:=⟨1,n,[],[]⟩
def ko (s:aF):Ex:=⟨2,0,s,[]⟩
def sA (op:Int) (a b:Ex):Ex:=⟨op,0,[],[a,b]⟩
theorem aem (n:Int) (s:St):aE Tryz.prog qS [.int .i64 n] s (.agg (bE (wG n))) s:=by
 refine aE.pure ?_ rfl (by simp [D.ok,gN]) s
 unfold S0
 refine aE.go IN rfl fun B Q hB hQ=> ?_
 have⟨hF,hP,hY,hZ⟩:=bq
 repeat' (first
 | simp only [go_sem,hF,hP,hY,hZ,wG]
 | (with_reducible first | refine bK fun hc=> ?_ | refine bL fun hc=> ?_ | refine bM (fun hc=> ?_) fun hc=> ?_) <;> (try simp only [hc,bs, ↓reduceIte]at h) <;> try simp only [hc]
 | (with_reducible refine aC hQ ?_;simp only [au,aw,bu,bw,go_sem,hF,hP,hY,hZ,wG];repeat' (first | exact Ok.out | with_reducible refine aB ?_ ?_ | (simp;done))))
theorem Oh (t:aF) (s:St):aE Tryz.prog kS [.str t] s (.agg (bE (ko t))) s:=by
 refine aE.pure ?_ rfl (by simp [D.ok,gN]) s
 unfold S0
 refine aE.go GQ rfl fun B Q hB hQ=> ?_
 have⟨hF,hP,hY,hZ⟩:=bq
 repeat' (first
 | simp only [go_sem,hF,hP,hY,hZ,ko]
 | (with_reducible first | refine bK fun hc=> ?_ | refine bL fun hc=> ?_ | refine bM (fun hc=> ?_) fun hc=> ?_) <;> (try simp only [hc,bs, ↓reduceIte]at h) <;> try simp only [hc]
 | (with_reducible refine aC hQ ?_;simp only [au,aw,bu,bw,go_sem,hF,hP,hY,hZ,ko];repeat' (first | exact Ok.out | with_reducible refine aB ?_ ?_ | (simp;done))))
theorem Rk (op:Int) (a b:Ex) (s:St):aE Tryz.prog uf [.int .i64 op, .agg (bE a), .agg (bE b)] s (.agg (bE (sA op a b))) s:=by
 refine aE.pure ?_ (by simp [D.bR,D.ok,gN]) (by simp [D.ok,gN]) s
 unfold S0
 refine aE.go IP rfl fun B Q hB hQ=> ?_
 have⟨hF,hP,hY,hZ⟩:=bq
 repeat' (first
 | simp only [go_sem,hF,hP,hY,hZ,sA]
 | (with_reducible first | refine bK fun hc=> ?_ | refine bL fun hc=> ?_ | refine bM (fun hc=> ?_) fun hc=> ?_) <;> (try simp only [hc,bs, ↓reduceIte]at h) <;> try simp only [hc]
 | (with_reducible refine aC hQ ?_;simp only [au,aw,bu,bw,go_sem,hF,hP,hY,hZ,sA];repeat' (first | exact Ok.out | with_reducible refine aB ?_ ?_ | (simp;done))))
def source:aF:= [103,108,111,98,97,108,32,103,59,10,112,114,111,99,32,109,97,105,110,40,41,32,123,10,32,118,97,114,32,118,59,10,32,118,32,61,32,50,59,10,32,103,32,61,32,112,40,51,44,32,114,101,102,32,118,41,59,10,32,112,114,105,110,116,32,118,59,10,32,112,114,105,110,116,32,103,59,10,125,10,112,114,111,99,32,112,40,120,44,32,114,101,102,32,121,41,32,123,10,32,121,32,61,32,121,32,43,32,120,59,10,32,105,102,32,40,121,32,62,32,57,41,32,123,10,32,32,103,111,116,111,32,101,59,10,32,125,10,32,114,101,116,117,114,110,32,121,59,10,101,58,32,125,10]
theorem UM (s:St):aE Tryz.prog tc [] s (.str source) s:=by
 refine aE.pure ?_ rfl rfl s
 unfold S0
 refine aE.go Df rfl fun B Q hB hQ=> ?_
 have⟨hF,hP,hY,hZ⟩:=bq
 repeat' (first
 | simp only [go_sem,hF,hP,hY,hZ,source]
 | (with_reducible first | refine bK fun hc=> ?_ | refine bL fun hc=> ?_ | refine bM (fun hc=> ?_) fun hc=> ?_) <;> (try simp only [hc,bs, ↓reduceIte]at h) <;> try simp only [hc]
 | (with_reducible refine aC hQ ?_;(try cases h);simp only [au,aw,bu,bw,go_sem,hF,hP,hY,hZ,source];try exact Ai)
 | (cases h;done))
def pD:Pg:=⟨[[103]],[
 ⟨[109,97,105,110],[],[[118]],[
  ⟨1,1,[],[118],[],wG 2,false,[],[],[]⟩,
  ⟨2,4,[],[103],[112],mw,false,[⟨false,[],wG 3⟩,⟨true,[118],mw⟩],[],[]⟩,
  ⟨3,3,[],[],[],ko [118],false,[],[],[]⟩,
  ⟨4,3,[],[],[],ko [103],false,[],[],[]⟩],[]⟩,
 ⟨[112],[⟨[120],false⟩,⟨[121],true⟩],[],[
  ⟨5,1,[],[121],[],sA 8 (ko [121]) (ko [120]),false,[],[],[]⟩,
  ⟨6,5,[],[],[],sA 12 (ko [121]) (wG 9),false,[],[⟨7,10,[],[101],[],mw,false,[],[],[]⟩],[]⟩,
  ⟨8,9,[],[],[],ko [121],true,[],[],[]⟩],[[101]]⟩]⟩
theorem abz (s:St):aE Tryz.prog wT [] s (.agg (bH pD)) s:=by
 refine aE.pure ?_ rfl (by simp [D.ok,fX]) s
 unfold S0
 refine aE.go GG rfl fun B Q hB hQ=> ?_
 have⟨hF,hP,hY,hZ⟩:=bq
 repeat' (first
 | simp only [go_sem,hF,hP,hY,hZ,pD]
 | (with_reducible refine CU (aem _ _) ?_)
 | (with_reducible refine CU (Oh _ _) ?_)
 | (with_reducible refine CU (Rk _ _ _ _) ?_)
 | (with_reducible refine aC hQ ?_;simp only [au,aw,Option.some.injEq,exists_eq_left',go_sem,hF,hP,hY,hZ];repeat' (first | exact Ok.out | with_reducible refine aB ?_ ?_ | (simp;done))))
 repeat' (first | exact Ok.out | with_reducible refine Wk.agg ?_ | with_reducible refine Wk.rows ?_ | with_reducible refine Wk.slice ?_ | with_reducible refine iF.cons ?_ ?_ | with_reducible refine mM.cons ?_ ?_)
end Go.Abs

/-! LawTo1 -/

namespace Go.Abs
open Go.Proofs
def Pg.awb (p:Pg) (n:Int):aF:=match p.procs[(abn n p.procs.length).toNat]? with | some f=>f.name | none=> []
end Go.Abs

/-! AlP -/

namespace Go.Abs
open Go.Proofs
theorem abA:Da.iC:=⟨AR (by decide +kernel) (by decide +kernel),by decide +kernel⟩
end Go.Abs

/-! LawAl2 -/

namespace Go.Abs
open Go.Proofs
end Go.Abs

/-! SwP -/

namespace Go.Abs
section
variable {a b:aF}
end
section
variable {a b:aF} (ha:isName a=true) (hb:isName b=true)
include ha hb
end
def Pg.check (p:Pg):Int×Int:=if p.scope.1==0 then(if p.arity.1==0 then(if p.jump.1==0 then p.alias else p.jump)else p.arity)else p.scope
end Go.Abs

/-! Ck1 -/

namespace Go.Abs
set_option maxRecDepth 8000
open Go.Proofs
theorem Ya : ∀ n,n<1000000000→∀ l:List Sm,Sm.aS l<n→aE Tryz.prog ki [.slice .shared 13 (l.map bd)] S0 (.int .i64 (Sm.eI l:Int)) S0:=by
 intro n
 induction n with
 | zero=>intro _ l h;omega
 | succ n ih=>
 intro hn l hv
 have hl:=Sm.cZ l
 have hk : ∀ y∈l,(∀ s,aE Tryz.prog ki [.slice .shared 13 (y.aZ.map bd)] s (.int .i64 (Sm.eI y.aZ:Int)) s)∧(∀ s,aE Tryz.prog ki [.slice .shared 13 (y.aP.map bd)] s (.int .i64 (Sm.eI y.aP:Int)) s)∧
  y.iI=1+Sm.eI y.aZ+Sm.eI y.aP:=fun y hy=>by
  have h1:=Sm.bV hy
  have e9:Sm.aS y.aZ<y.size∧Sm.aS y.aP<y.size∧y.iI=1+Sm.eI y.aZ+Sm.eI y.aP:=by
   obtain⟨_,_,_,_,_,_,_,_,_,_⟩:=y
   simp only [Sm.size];exact⟨by omega,by omega,rfl⟩
  exact⟨fun s=>(ih (by omega) y.aZ (by omega)).pure (by simp only [D.bR,D.ok,Tag.ok,mF];rfl) rfl s,fun s=>(ih (by omega) y.aP (by omega)).pure (by simp only [D.bR,D.ok,Tag.ok,mF];rfl) rfl s,e9.2.2⟩
 have oS:=kQ l
 unfold S0
 refine aE.go EK rfl fun B Q hB hQ=> ?_
 have⟨hF,hP,hY,hZ⟩:=bq
 repeat' (first
 | simp only [go_sem,hF,hP,hY,hZ]
 | (with_reducible refine aC hQ ?_;simp only [au,aw,Option.some.injEq,exists_eq_left',go_sem,hF,hP,hY,hZ];repeat' (first | exact Ok.out | with_reducible refine aB ?_ ?_ | (simp;done))))
 refine cd 0 0 (a8.ind (ι:=List Sm×Nat×Nat) (fun i=>l.drop i.2.1=i.1∧i.2.2+Sm.eI i.1=Sm.eI l+i.1.length) (fun i=>i.1.length)
  (fun i=> [(0, .slice .shared 13 (l.map bd)),(3, .int .i64 (i.2.2:Int)),(7, .slice .shared 13 (l.map bd)),(8, .int .i64 (l.length:Int)),(9, .int .i64 (i.2.1:Int))]) (fun i=>⟨[],[]⟩) ?_ (l,0,l.length) ⟨rfl,Nat.add_comm _ _⟩)
 rintro⟨rest,k,c⟩ ⟨g1,g2⟩ IH
 dsimp only at g1 g2
 cases rest with
 | nil=>
  have hF:=drop_nil g1
  simp only [Sm.eI,Nat.add_zero,List.length_nil]at g2
  subst g2
  repeat' (first
 | simp only [go_sem,hF,hP,hY,hZ]
 | (with_reducible refine aC hQ ?_;simp only [au,aw,Option.some.injEq,exists_eq_left',go_sem,hF,hP,hY,hZ];repeat' (first | exact Ok.out | with_reducible refine aB ?_ ?_ | (simp;done))))
 | cons y rest=>
  obtain⟨hP,g3,hF,g4⟩:=drop_cons g1
  obtain⟨hy1,hy2,hy3⟩:=hk y (List.mem_of_getElem? hP)
  simp only [Sm.eI,List.length_cons]at g2
  have OP:=Sm.bV (List.mem_of_getElem? hP)
  have KK:rest.length≤l.length:=by have:=congrArg List.length g1;simp only [List.length_drop,List.length_cons]at this;omega
  have w1:IntKind.wrap .i64 ((k:Int)+1)=((k+1:Nat):Int):=by rw [dc] <;> omega
  have w2:IntKind.wrap .i64 ((Sm.eI y.aZ:Int)+(Sm.eI y.aP:Int))=((Sm.eI y.aZ+Sm.eI y.aP:Nat):Int):=by rw [dc] <;> omega
  have w3:IntKind.wrap .i64 ((c:Int)+((Sm.eI y.aZ+Sm.eI y.aP:Nat):Int))=((c+(Sm.eI y.aZ+Sm.eI y.aP):Nat):Int):=by rw [dc] <;> omega
  repeat' (first
 | simp only [go_sem,hF,hP,hY,hZ,w1,w2,w3]
 | (with_reducible refine CU (hy1 _) ?_)
 | (with_reducible refine CU (hy2 _) ?_)
 | (with_reducible refine aC hQ ?_;simp only [au,aw,Option.some.injEq,exists_eq_left',go_sem,hF,hP,hY,hZ];repeat' (first | exact Ok.out | with_reducible refine aB ?_ ?_ | (simp;done))))
  refine cd 0 0 (IH (rest,k+1,c+(Sm.eI y.aZ+Sm.eI y.aP)) ⟨g3,by dsimp only;omega⟩ (Nat.lt_succ_self _))
theorem Yb {l:List Sm} (h:Sm.aS l+1<1000000000) (s:St):aE Tryz.prog ki [.slice .shared 13 (l.map bd)] s (.int .i64 (Sm.eI l:Int)) s:=
 (Ya _ h l (Nat.lt_succ_self _)).pure (by simp only [D.bR,D.ok,Tag.ok,mF];rfl) rfl s
def Pc.yZ:List Pc→Nat
 | []=>0
 | f::l=>Sm.eI f.body+Pc.yZ l
theorem Ll : ∀ l:List Pc,Pc.yZ l≤Pc.aS l
 | []=>Nat.le_refl _
 | f::l=>by
  have:=Ll l;have:=kQ f.body
  simp only [Pc.yZ,Pc.aS,Pc.size];omega
theorem Yc {p:Pg} (h:p.size+1<1000000000) (s:St):aE Tryz.prog uV [.agg (bH p)] s (.int .i64 (Pc.yZ p.procs:Int)) s:=by
 refine aE.pure ?_ (by simp [D.bR,D.ok,fX]) rfl s
 have hs:Pc.aS p.procs+1<1000000000:=by simp only [Pg.size]at h;omega
 have hl:=Pc.cZ p.procs
 have hcp:=Ll p.procs
 unfold S0
 refine aE.go EF rfl fun B Q hB hQ=> ?_
 have⟨hF,hP,hY,hZ⟩:=bq
 repeat' (first
 | simp only [go_sem,hF,hP,hY,hZ]
 | (with_reducible refine aC hQ ?_;simp only [au,aw,Option.some.injEq,exists_eq_left',go_sem,hF,hP,hY,hZ];repeat' (first | exact Ok.out | with_reducible refine aB ?_ ?_ | (simp;done))))
 refine cd 1 0 (a8.ind (ι:=List Pc×Nat×Nat) (fun i=>p.procs.drop i.2.1=i.1∧i.2.2+Pc.yZ i.1=Pc.yZ p.procs) (fun i=>i.1.length)
  (fun i=> [(1, .ptr 0 0),(3, .int .i64 (i.2.2:Int)),(7, .slice .shared 5 (p.procs.map cb)),(8, .int .i64 (p.procs.length:Int)),(9, .int .i64 (i.2.1:Int))]) (fun i=>⟨[bH p],[]⟩) ?_ (p.procs,0,0) ⟨rfl,Nat.zero_add _⟩)
 rintro⟨rest,k,c⟩ ⟨g1,g2⟩ IH
 dsimp only at g1 g2
 cases rest with
 | nil=>
  have hF:=drop_nil g1
  simp only [Pc.yZ,Nat.add_zero]at g2
  subst g2
  repeat' (first
 | simp only [go_sem,hF,hP,hY,hZ]
 | (with_reducible refine aC hQ ?_;simp only [au,aw,Option.some.injEq,exists_eq_left',go_sem,hF,hP,hY,hZ];repeat' (first | exact Ok.out | with_reducible refine aB ?_ ?_ | (simp;done))))
 | cons f rest=>
  obtain⟨hP,g3,hF,g4⟩:=drop_cons g1
  have hsf:=Pc.bV (List.mem_of_getElem? hP)
  simp only [Pc.size]at hsf
  have hc:=fun s=>Yb (l:=f.body) (by omega) s
  simp only [Pc.yZ]at g2
  have w1:IntKind.wrap .i64 ((k:Int)+1)=((k+1:Nat):Int):=by rw [dc] <;> omega
  have w2:IntKind.wrap .i64 ((c:Int)+(Sm.eI f.body:Int))=((c+Sm.eI f.body:Nat):Int):=by rw [dc] <;> omega
  repeat' (first
 | simp only [go_sem,hF,hP,hY,hZ,w1,w2]
 | (with_reducible refine CU (hc _) ?_)
 | (with_reducible refine aC hQ ?_;simp only [au,aw,Option.some.injEq,exists_eq_left',go_sem,hF,hP,hY,hZ];repeat' (first | exact Ok.out | with_reducible refine aB ?_ ?_ | (simp;done))))
  refine cd 1 0 (IH (rest,k+1,c+Sm.eI f.body) ⟨g3,by dsimp only;omega⟩ (Nat.lt_succ_self _))
theorem UN {p:Pg} (h:p.may=false):p.scope=(1,0):=by unfold Pg.scope;rw [h];rfl
theorem DZ {p:Pg} (h:p.iC) (s:St):aE Tryz.prog n9 [.agg (bH p)] s (.agg [.int .i64 p.check.1, .int .i64 p.check.2]) s:=by
 refine aE.pure ?_ (by simp [D.bR,D.ok,fX]) rfl s
 have h1:=fun s=>Qx h.NU s
 rw [E9]at h1
 have h2:=fun s=>vr h s
 have h3:=fun s=>Je h s
 have h4:=fun s=>Ux h s
 have h5:=fun s=>Rb h s
 obtain⟨R,hR⟩ : ∃ R,p.check=R:=⟨_,rfl⟩
 rw [hR]
 unfold Pg.check at hR
 unfold S0
 rcases Bool.eq_false_or_eq_true p.may with b0 | b0
 case inr=>
  have e:((1:Int)==0)=false:=rfl
  rw [UN b0]at hR
  simp only [e,Bool.false_eq_true,if_false]at hR
  subst hR
  refine aE.go n4 rfl fun B Q hB hQ=> ?_
  have⟨hF,hP,hY,hZ⟩:=bq
  repeat' (first
 | simp only [go_sem,hF,hP,hY,hZ,b0,Bool.not_false]
 | (with_reducible refine CU (h1 _) ?_)
 | (with_reducible refine aC hQ ?_;simp only [au,aw,Option.some.injEq,exists_eq_left',go_sem,hF,hP,hY,hZ];repeat' (first | exact Ok.out | with_reducible refine aB ?_ ?_ | (simp;done))))
 rcases Bool.eq_false_or_eq_true (p.scope.1==0)with b1 | b1
 case inr=>
  simp only [b1,Bool.false_eq_true,if_false]at hR
  subst hR
  refine aE.go n4 rfl fun B Q hB hQ=> ?_
  have⟨hF,hP,hY,hZ⟩:=bq
  repeat' (first
 | simp only [go_sem,hF,hP,hY,hZ,b0,b1,Bool.not_true]
 | (with_reducible refine CU (h1 _) ?_)
 | (with_reducible refine CU (h2 _) ?_)
 | (with_reducible refine aC hQ ?_;simp only [au,aw,Option.some.injEq,exists_eq_left',go_sem,hF,hP,hY,hZ];repeat' (first | exact Ok.out | with_reducible refine aB ?_ ?_ | (simp;done))))
 simp only [b1,if_true]at hR
 rcases Bool.eq_false_or_eq_true (p.arity.1==0)with b2 | b2
 case inr=>
  simp only [b2,Bool.false_eq_true,if_false]at hR
  subst hR
  refine aE.go n4 rfl fun B Q hB hQ=> ?_
  have⟨hF,hP,hY,hZ⟩:=bq
  repeat' (first
 | simp only [go_sem,hF,hP,hY,hZ,b0,b1,b2,Bool.not_true]
 | (with_reducible refine CU (h1 _) ?_)
 | (with_reducible refine CU (h2 _) ?_)
 | (with_reducible refine CU (h3 _) ?_)
 | (with_reducible refine aC hQ ?_;simp only [au,aw,Option.some.injEq,exists_eq_left',go_sem,hF,hP,hY,hZ];repeat' (first | exact Ok.out | with_reducible refine aB ?_ ?_ | (simp;done))))
 simp only [b2,if_true]at hR
 rcases Bool.eq_false_or_eq_true (p.jump.1==0)with b3 | b3
 case inr=>
  simp only [b3,Bool.false_eq_true,if_false]at hR
  subst hR
  refine aE.go n4 rfl fun B Q hB hQ=> ?_
  have⟨hF,hP,hY,hZ⟩:=bq
  repeat' (first
 | simp only [go_sem,hF,hP,hY,hZ,b0,b1,b2,b3,Bool.not_true]
 | (with_reducible refine CU (h1 _) ?_)
 | (with_reducible refine CU (h2 _) ?_)
 | (with_reducible refine CU (h3 _) ?_)
 | (with_reducible refine CU (h4 _) ?_)
 | (with_reducible refine aC hQ ?_;simp only [au,aw,Option.some.injEq,exists_eq_left',go_sem,hF,hP,hY,hZ];repeat' (first | exact Ok.out | with_reducible refine aB ?_ ?_ | (simp;done))))
 simp only [b3,if_true]at hR
 subst hR
 refine aE.go n4 rfl fun B Q hB hQ=> ?_
 have⟨hF,hP,hY,hZ⟩:=bq
 repeat' (first
 | simp only [go_sem,hF,hP,hY,hZ,b0,b1,b2,b3,Bool.not_true]
 | (with_reducible refine CU (h1 _) ?_)
 | (with_reducible refine CU (h2 _) ?_)
 | (with_reducible refine CU (h3 _) ?_)
 | (with_reducible refine CU (h4 _) ?_)
 | (with_reducible refine CU (h5 _) ?_)
 | (with_reducible refine aC hQ ?_;simp only [au,aw,Option.some.injEq,exists_eq_left',go_sem,hF,hP,hY,hZ];repeat' (first | exact Ok.out | with_reducible refine aB ?_ ?_ | (simp;done))))
theorem Rl {p:Pg} (h:p.iC) (s:St):aE Tryz.prog sk [.agg (bH p)] s (.bool (p.check.1==0)) s:=by
 refine aE.pure ?_ (by simp [D.bR,D.ok,fX]) rfl s
 have h1:=fun s=>DZ h s
 unfold S0
 refine aE.go GF rfl fun B Q hB hQ=> ?_
 have⟨hF,hP,hY,hZ⟩:=bq
 repeat' (first
 | simp only [go_sem,hF,hP,hY,hZ]
 | (with_reducible refine CU (h1 _) ?_)
 | (with_reducible refine aC hQ ?_;simp only [au,aw,Option.some.injEq,exists_eq_left',go_sem,hF,hP,hY,hZ];repeat' (first | exact Ok.out | with_reducible refine aB ?_ ?_ | (simp;done))))
theorem Rm {p:Pg} (h:p.iC) (s:St):aE Tryz.prog ub [.agg (bH p)] s (.agg [.int .i64 p.check.1, .int .i64 p.check.2]) s:=by
 refine aE.pure ?_ (by simp [D.bR,D.ok,fX]) rfl s
 have h2:=fun s=>Ui h s
 obtain⟨R,hR⟩ : ∃ R,p.check=R:=⟨_,rfl⟩
 rw [hR]
 unfold Pg.check at hR
 unfold S0
 rcases Bool.eq_false_or_eq_true (p.scope.1==0)with b1 | b1
 case inr=>
  simp only [b1,Bool.false_eq_true,if_false]at hR
  subst hR
  refine aE.go qZ rfl fun B Q hB hQ=> ?_
  have⟨hF,hP,hY,hZ⟩:=bq
  repeat' (first
 | simp only [go_sem,hF,hP,hY,hZ,b1]
 | (with_reducible refine CU (h2 _) ?_)
 | (with_reducible refine aC hQ ?_;simp only [au,aw,Option.some.injEq,exists_eq_left',go_sem,hF,hP,hY,hZ];repeat' (first | exact Ok.out | with_reducible refine aB ?_ ?_ | (simp;done))))
 have hb:=nr b1
 have h3:=fun s=>Uj h hb s
 have e3:p.arity=gY 6 (wy p p.pre):=by unfold Pg.arity;rw [if_pos b1]
 rw [← e3]at h3
 have h4:=fun s=>UB h hb s
 have e4:p.jump=lg 7 (qi p.procs):=by unfold Pg.jump;rw [if_pos b1]
 rw [← e4]at h4
 simp only [b1,if_true]at hR
 rcases Bool.eq_false_or_eq_true (p.arity.1==0)with b2 | b2
 case inr=>
  simp only [b2,Bool.false_eq_true,if_false]at hR
  subst hR
  refine aE.go qZ rfl fun B Q hB hQ=> ?_
  have⟨hF,hP,hY,hZ⟩:=bq
  repeat' (first
 | simp only [go_sem,hF,hP,hY,hZ,b1,b2]
 | (with_reducible refine CU (h2 _) ?_)
 | (with_reducible refine CU (h3 _) ?_)
 | (with_reducible refine aC hQ ?_;simp only [au,aw,Option.some.injEq,exists_eq_left',go_sem,hF,hP,hY,hZ];repeat' (first | exact Ok.out | with_reducible refine aB ?_ ?_ | (simp;done))))
 simp only [b2,if_true]at hR
 have h5:=fun s=>abg h b1 s
 have e5:p.alias=gY 8 (B2 p p.pre):=by unfold Pg.alias;rw [if_pos b2,X5 hb (Jx b2).2]
 rw [← e5]at h5
 rcases Bool.eq_false_or_eq_true (p.jump.1==0)with b3 | b3
 case inr=>
  simp only [b3,Bool.false_eq_true,if_false]at hR
  subst hR
  refine aE.go qZ rfl fun B Q hB hQ=> ?_
  have⟨hF,hP,hY,hZ⟩:=bq
  repeat' (first
 | simp only [go_sem,hF,hP,hY,hZ,b1,b2,b3]
 | (with_reducible refine CU (h2 _) ?_)
 | (with_reducible refine CU (h3 _) ?_)
 | (with_reducible refine CU (h4 _) ?_)
 | (with_reducible refine aC hQ ?_;simp only [au,aw,Option.some.injEq,exists_eq_left',go_sem,hF,hP,hY,hZ];repeat' (first | exact Ok.out | with_reducible refine aB ?_ ?_ | (simp;done))))
 simp only [b3,if_true]at hR
 subst hR
 refine aE.go qZ rfl fun B Q hB hQ=> ?_
 have⟨hF,hP,hY,hZ⟩:=bq
 repeat' (first
 | simp only [go_sem,hF,hP,hY,hZ,b1,b2,b3]
 | (with_reducible refine CU (h2 _) ?_)
 | (with_reducible refine CU (h3 _) ?_)
 | (with_reducible refine CU (h4 _) ?_)
 | (with_reducible refine CU (h5 _) ?_)
 | (with_reducible refine aC hQ ?_;simp only [au,aw,Option.some.injEq,exists_eq_left',go_sem,hF,hP,hY,hZ];repeat' (first | exact Ok.out | with_reducible refine aB ?_ ?_ | (simp;done))))
theorem UO {p:Pg} (h:p.iC) (s:St):aE Tryz.prog uS [.agg (bH p)] s (.bool (p.check.1==0)) s:=by
 refine aE.pure ?_ (by simp [D.bR,D.ok,fX]) rfl s
 have h1:=fun s=>Rm h s
 unfold S0
 refine aE.go EE rfl fun B Q hB hQ=> ?_
 have⟨hF,hP,hY,hZ⟩:=bq
 repeat' (first
 | simp only [go_sem,hF,hP,hY,hZ]
 | (with_reducible refine CU (h1 _) ?_)
 | (with_reducible refine aC hQ ?_;simp only [au,aw,Option.some.injEq,exists_eq_left',go_sem,hF,hP,hY,hZ];repeat' (first | exact Ok.out | with_reducible refine aB ?_ ?_ | (simp;done))))
end Go.Abs

/-! Tot -/

namespace Go.Abs
def Tt {α:Type} (o:Option α) (Q:α→Prop):Prop:=∃ a,o=some a∧Q a
structure Rd.Ok (r:Rd):Prop where
 k : ∀ t∈r.l,0≤t.kind∧t.kind≤4
 lt:r.i<r.l.length
 len:r.l.length≤2001
 last : ∀ t,r.l[r.l.length - 1]? = some t→t.kind=0
 n1:r.n≤201
structure Rd.To (r r':Rd):Prop where
 ok:r'.Ok
 l:r'.l=r.l
 i:r.i≤r'.i
 g:r'.good=true→r.good=true
 s:r.good=false→r'=r
structure Rd.ToE (r r':Rd):Prop where
 to:r.To r'
 n:r'.n=r.n
def ExT (r:Rd) (p:Ex×Rd):Prop:=r.ToE p.2∧(p.2.good=true→p.1.size+3+4*r.i≤4*p.2.i)
end Go.Abs

/-! Tot2 -/

namespace Go.Abs
def StT (r:Rd) (p:Sm×Rd):Prop:=r.ToE p.2∧(p.2.good=true→p.1.size+1+8*r.i≤8*p.2.i)
end Go.Abs

/-! Tot3 -/

namespace Go.Abs
structure StQ (r r':Rd):Prop where
 to:r.To r'
 n:r'.good=true→r'.n≤200
def awT (r:Rd) (p:(List Sm×List aF)×Rd):Prop:=StQ r p.2∧(p.2.good=true→Sm.aS p.1.1+p.1.2.length+8*r.i≤8*p.2.i)
def awU (t:cj):Prop:=1≤t.kind∧t.kind≤4
def WA:Nat:=20000
end Go.Abs

/-! Parsed2 -/

namespace Go.Abs
open Go.Proofs
theorem JK:DX WA source=some (pD,0,0):=by kernel_rfl
theorem Oi:source.length<4611686018427387904:=by simp [source]
theorem Gt:Nat.ble (pD.size+1) 1000=true:=by kernel_rfl
theorem Oj:pD.size<1073741824:=Nat.lt_of_lt_of_le (Nat.le_of_ble_eq_true Gt) (Nat.le_of_ble_eq_true rfl)
end Go.Abs

/-! RefLex2 -/

namespace Go.Abs
set_option maxRecDepth 8000
open Go.Proofs
def apt:Int→aF→Int
 | n,[]=>n
 | n,c::r=>apt (n*10+((c.toNat:Int) - 48)) r
def apu:cj:=⟨0,[],0,0⟩
def axy (x:cj ⊕ Int):cj×Int:=
 match x with
 | .inl t=>(t,0)
 | .inr e=>(apu,e)
end Go.Abs

/-! RefLex3 -/

namespace Go.Abs
set_option maxRecDepth 8000
open Go.Proofs
end Go.Abs

/-! Ref4 -/

namespace Go.Abs
set_option maxRecDepth 8000
open Go.Proofs
def axz (s:aF):aF:=s.take (min s.length 100100)
end Go.Abs

/-! Ref5 -/

namespace Go.Abs
set_option maxRecDepth 8000
open Go.Proofs
def Rd.awh (n:Nat) (l:List aF) (fJ:Int) (r:Rd):Option (List aF×Rd):=
 (r.take [44]).bind fun q=>if !q.1 then(q.2.want [59]).bind fun r=>some (l,r)else Rd.names n l fJ q.2
def abB (s:aF):Bool:=s == [105,102] || s == [119,104,105,108,101] || s == [98,114,101,97,107] || s == [99,111,110,116,105,110,117,101] || s == [114,101,116,117,114,110] || s == [103,111,116,111] || s == [114,101,97,100] || s == [112,114,105,110,116]
def Rd.WB (m:Nat) (r:Rd):Option (List Ar×Rd):=
 (r.want [40]).bind fun r=>(r.take [41]).bind fun q=>
  if q.1 then some ([],q.2)
  else if q.2.good then(Rd.yq m m [] q.2).bind fun x=>(x.2.want [41]).bind fun r=>some (x.1,r)
  else some ([],q.2)
end Go.Abs

/-! Ref6 -/

namespace Go.Abs
set_option maxRecDepth 8000
open Go.Proofs
def Rd.q9 (m:Nat) (name:aF) (r:Rd):Option (Sm×Rd):=
 (r.isO [40]).bind fun b=>
  if b then(Rd.WB m r).bind fun q=>some (⟨0,4,[],[],name,mw,false,q.1,[],[]⟩,q.2)
  else(r.want [61]).bind fun r=>(r.ahead [40]).bind fun b=>
   if b then(r.name true).bind fun y=>(Rd.WB m y.2).bind fun q=>some (⟨0,4,[],name,y.1,mw,false,q.1,[],[]⟩,q.2)
   else(Rd.whole m r).bind fun y=>some (⟨0,1,[],name,[],y.1,false,[],[],[]⟩,y.2)
def axA (p:Sm×Rd):Option (Sm×Rd):=(p.2.want [59]).bind fun r=>some (p.1,r)
end Go.Abs

/-! MirNum -/

namespace Go.Abs
def Pt {α:Type} (o:Option α) (Q:α→Prop):Prop:=∀ a,o=some a→Q a
structure apv (a b:Rd):Prop where
 l:b.l=a.l
 n:b.n=a.n
 g:b.good=true→a.good=true
def SmK (r0:Rd) (p:Sm×Rd):Prop:=apv r0 p.2∧p.1.aZ = []∧p.1.aP = []
structure Num (r:Rd) (k:Nat) (r':Rd):Prop where
 l:r'.l=r.l
 g:r'.good=true→r.good=true
 n:r'.good=true→k=r'.n
 le:r'.good=true→r.n≤200→r'.n≤200
end Go.Abs

/-! Ref7 -/

namespace Go.Abs
set_option maxRecDepth 8000
open Go.Proofs
def cN (r:Rd):D:=match r.good with | true=> .int .i64 r.n | false=> .junk
instance (r:Rd):Cell (cN r):=by
 unfold cN
 cases r.good
 ·exact inferInstanceAs (Cell .junk)
 ·exact inferInstanceAs (Cell (.int .i64 _))
def stD (g:Bool) (v:Sm):List D:=match g with | true=>bd v | false=> [.junk, .junk, .junk, .junk, .junk, .junk, .junk, .junk, .junk, .junk, .junk, .junk, .junk]
def TW (l:List cj):Prop:=∀ t∈l,t.kind=4→abB t.text=false
abbrev awk (m n:Nat):Prop:=∀ {k:Int} {z:D} [Cell z] {r r1:Rd} {p:(List Sm×List aF)×Rd},r.want [123] = some r1→Rd.rows m n k false r1=some p→TW r.l→(r1.good=true→z = .int .i64 r1.n)→(r1.good=true→r1.n≤200)→
 ∀ {s:St} {o:Nat},s.aG[o]? = some (wb z r)→
 aE Tryz.prog Et [.ptr o 0, .int .i64 k, .bool false] s (.tuple [.slice .shared 13 ((Sm.gB true r1.n p.1.1).1.map bd), .slice .shared 1 (p.1.2.map encStr)]) ⟨s.aG.set o (wb (cN p.2) p.2),s.aH⟩
abbrev apJ (m n:Nat):Prop:=∀ {nest:Int} {labels:List aF} {r:Rd} {p:Sm×Rd},Rd.stmt m n nest r=some p→r.good=true→TW r.l→r.n≤200→
 ∀ {s:St} {o:Nat},s.aG[o]? = some (wb (.int .i64 r.n) r)→
 aE Tryz.prog Gz [.ptr o 0, .slice .shared 1 (labels.map encStr), .int .i64 nest] s (.agg (stD p.2.good (Sm.num true r.n {p.1 with labels:=labels}).1)) ⟨s.aG.set o (wb (cN p.2) p.2),s.aH⟩
end Go.Abs

/-! Ref8 -/

namespace Go.Abs
set_option maxRecDepth 8000
open Go.Proofs
end Go.Abs

/-! Ref9 -/

namespace Go.Abs
set_option maxRecDepth 8000
open Go.Proofs
def Rd.awV (m:Nat) (r:Rd):Option (Pc×Rd):=
 (r.name true).bind fun x=>(x.2.want [40]).bind fun r=>(r.take [41]).bind fun q=>
  if q.1 then(q.2.want [123]).bind fun r=>Rd.yr m x.1 [] r
  else if q.2.good then(Rd.params m [] q.2).bind fun y=>(y.2.want [41]).bind fun r=>(r.want [123]).bind fun r=>Rd.yr m x.1 y.1 r
  else Rd.yr m x.1 [] q.2
end Go.Abs

/-! Ref10 -/

namespace Go.Abs
set_option maxRecDepth 8000
open Go.Proofs
def Pc.iI (n:Nat):List Pc→Nat
 | []=>n
 | f::l=>Pc.iI (Sm.gB true n f.body).2 l
end Go.Abs

/-! Glue2 -/

namespace Go.Abs
def M0:Map:=⟨fun _ _=>none,fun _=>(0, .any),fun _=>none⟩
def Kept (w w':World):Prop:=w.keptBut w' (fun _=>False)∧∀ a:Addr,a.block<w.heap.size→w'.frozen? a=w.frozen? a
theorem Kept.frame {w w':World} (h:Kept w w') (may:MemPlace→Prop):w.keptBut w' may:=World.keptBut_mono (fun _ f=>f.elim) h.1
theorem Ext.abC {M M':Map} {s':St} {w w':World} (e:Ext M S0 w M' s' w'):Kept w w':=by
 have hh : ∀ b,b<w.heap.size→w'.heap[b]? = w.heap[b]? :=fun b hb=>
  e.kept b hb (fun o ho=>by simp [S0]at ho) (fun t c z hl=>by obtain⟨n,hn⟩:=hl;simp [S0]at hn)
 refine⟨⟨e.os,e.output,fun i hi=> ?_⟩,fun a ha=> ?_⟩
 ·rw [hh i hi]
  exact(World.keptBut_refl w (fun _=>False)).2.2 i hi
 ·simp only [World.frozen?,hh _ ha]
theorem apw (G:Nat→Nat→Option Value) (w:World) (h : ∀ b o v,G b o=some v→w.cell? ⟨b,o,none⟩=some v∧v.oneCell'=true):Rel ⟨G,fun _=>(0, .any),fun _=>none⟩ S0 w:=
 ⟨h,fun o ds e=>by simp [S0]at e,fun o ho=>by simp [S0]at ho,fun o o' ho=>by simp [S0]at ho,fun t n e=>by simp [S0]at e,
  fun t b c z o hl=>by obtain⟨n,hn⟩:=hl;simp [S0]at hn,fun t t' b c z c' z' hl=>by obtain⟨n,hn⟩:=hl;simp [S0]at hn⟩
def Ol (w:World):Prop:=∀ g cs,Yv g=some cs→∃ T fr,w.heap[g]? = some (.cells cs T fr)
theorem aen (G:Nat→Nat→Option Value) {w:World} (h:Ol w):Laid ⟨G,fun _=>(0, .any),fun _=>none⟩ S0 w:=
 fun g cs hg=>⟨h g cs hg,fun o ho=>by simp [S0]at ho,fun t c z hl=>by obtain⟨n,hn⟩:=hl;simp [S0]at hn⟩
theorem Rn {P:Program} {f:FuncId} {args:List D} {gw:Array Value} {w:World} {G:Nat→Nat→Option Value} (h:eU P f args S0 fun d _=>d = .bool true)
 (hG : ∀ b o v,G b o=some v→w.cell? ⟨b,o,none⟩=some v∧v.oneCell'=true) (hl:gw.size=args.length)
 (ha : ∀ (i:Nat) (d:D) (v:Value),args[i]? = some d→gw[i]? = some v→RD ⟨G,fun _=>(0, .any),fun _=>none⟩ S0 d v) (lk:Ol w) :
 Calls P f gw w fun e w'=>e = .returned (.bool true)∧Kept w w':=by
 refine(h _ w gw (apw G w hG) (aen G lk) hl ha).mono fun e w' hw=> ?_
 obtain⟨M',d,v,s',rfl,rfl,he,_,hv⟩:=hw
 rw [hv.nz]
 exact⟨rfl,he.abC⟩
section
variable {P:Program} {H:Type} {enc:TypeId×Value→H}
theorem JL {f:Func} {s:ChangeSpec} {apart fresh handsOn again:Bool} {W W':World} {args:Array Value} {v:Value} {ds gs:List (DataW H)} {before pa pv:List MemPlace}
 (hW:DataW.Whole enc P f.params.toList s.vars apart W args.toList ds gs before)
 (abD : ∀ (b:Nat) (sp:Nat→Bool) (hd:Bool),DataW.TrodAll enc P W' b sp hd f.resultTypes.toList (v.resultList f.resultTypes.size) (s.fn H (ds++gs)).results [])
 (Hb : ∀ sp:Nat→Bool,(∀ p∈before,sp p.block=true)→DataW.TrodAll enc P W' 0 sp true f.params.toList args.toList (s.fn H (ds++gs)).args pa)
 (D0 : ∀ sp:Nat→Bool,(∀ p∈before,sp p.block=true)→DataW.TrodVars enc P W' sp s.vars (s.fn H (ds++gs)).vars pv)
 (nq:before=pa++pv) (hk:Kept W W')
 (FC : ∀ (j:Nat) (t:TypeId) (r:Value),f.resultTypes[j]? = some t→(v.resultList f.resultTypes.size)[j]? = some r→Value.okWide P W' .any 0 t r) :
 s.post enc P f apart fresh handsOn again W args v W':=by
 have hF : ∀ p∈before,p.block<W.heap.size:=fun p hp=>hW.lt p hp
 have hold : ∀ p∈before,(fun b=>decide (b<W.heap.size)) p.block=true:=fun p hp=>by simpa using hF p hp
 refine⟨ds,gs,before,[],pa,pv,hW,abD _ _ _,Hb _ hold,D0 _ hold,World.keptBut_mono (fun p hp=>⟨hp, ?_⟩) (hk.frame (· ∈before)),fun _=> ?_⟩
 ·rw [nq,List.mem_append]at hp
  exact Or.inr hp
 ·obtain⟨_,_,_,_,_,hz,hn⟩:=hW
  refine⟨FC,_,_,([]++pa)++pv,⟨[]++pa,pv,ChangeShapes.trodAll_append (Hb _ (fun _ _=>rfl)) (abD _ _ _),D0 _ (fun _ _=>rfl),rfl, ?_, ?_⟩, ?_⟩
  ·intro b off hp
   have ov:MemPlace.cell b off∈before:=by rw [nq];simpa using hp
   rw [hk.2 _ (hF _ ov)]
   exact hz b off ov
  ·intro ha
   have:=hn ha
   rw [nq]at this
   simpa using this
  ·intro p hp _
   rw [nq]
   simpa using hp
end
end Go.Abs

/-! LawAll -/

namespace Go.Abs
open Go.Proofs
def NW (t:cj):Prop:=t.kind=4→abB t.text=false
end Go.Abs

/-! Ck2 -/

namespace Go.Abs
set_option maxRecDepth 8000
open Go.Proofs
def D1 (p:Pg) (c qM:Int):Pg×Int×Int:=if c==0 then(if p.check.1==0 then(p,0,0)else(Da,p.check))else(Da,c,qM)
theorem Yf {T:aF} {p:Pg} {c qM:Int} (h:DX WA T=some (p,c,qM)) (hm:c=0→p.may=true∧qM=0) (hp:p.size<100000) (hl:T.length<4611686018427387904) (s:St) :
 aE Tryz.prog uT [.str T] s (.tuple [.agg (bH (D1 p c qM).1), .agg (mY (D1 p c qM).2)]) s:=by
 refine aE.pure ?_ rfl (by simp [D.bR,D.ok,fX,mY]) s
 have h1:=fun s=>X8 h hl s
 have e0:bH Da = [.slice .shared 1 [], .slice .shared 5 []]:=rfl
 unfold S0
 unfold D1
 have b0:(c != 0) = !(c==0):=rfl
 rcases Bool.eq_false_or_eq_true (c==0)with b1 | b1
 case inr=>
  simp only [b1,Bool.false_eq_true,if_false]
  rw [b1]at b0
  refine aE.go rS rfl fun B Q hB hQ=> ?_
  have⟨hF,hP,hY,hZ⟩:=bq
  repeat' (first
 | simp only [go_sem,hF,hP,hY,hZ,b1,b0,Bool.not_false,mY,e0]
 | (with_reducible refine CU (h1 _) ?_)
 | (with_reducible refine aC hQ ?_;simp only [au,aw,Option.some.injEq,exists_eq_left',go_sem,hF,hP,hY,hZ];repeat' (first | exact Ok.out | with_reducible refine aB ?_ ?_ | (simp;done))))
 have hc:c=0:=by simpa using b1
 subst hc
 obtain⟨Om,hf⟩:=hm rfl
 subst hf
 have ho:p.iC:=⟨AR Om (by omega),by omega⟩
 have h2:=fun s=>DZ ho s
 have b3:(p.check.1 != 0) = !(p.check.1==0):=rfl
 simp only [b1,if_true]
 rcases Bool.eq_false_or_eq_true (p.check.1==0)with b2 | b2
 case inr=>
  simp only [b2,Bool.false_eq_true,if_false]
  rw [b2]at b3
  refine aE.go rS rfl fun B Q hB hQ=> ?_
  have⟨hF,hP,hY,hZ⟩:=bq
  repeat' (first
 | simp only [go_sem,hF,hP,hY,hZ,b1,b3,Bool.not_false,mY,e0]
 | (with_reducible refine CU (h1 _) ?_)
 | (with_reducible refine CU (h2 _) ?_)
 | (with_reducible refine aC hQ ?_;simp only [au,aw,Option.some.injEq,exists_eq_left',go_sem,hF,hP,hY,hZ];repeat' (first | exact Ok.out | with_reducible refine aB ?_ ?_ | (simp;done))))
 simp only [b2,if_true]
 rw [b2]at b3
 refine aE.go rS rfl fun B Q hB hQ=> ?_
 have⟨hF,hP,hY,hZ⟩:=bq
 repeat' (first
 | simp only [go_sem,hF,hP,hY,hZ,b1,b3,Bool.not_true,mY]
 | (with_reducible refine CU (h1 _) ?_)
 | (with_reducible refine CU (h2 _) ?_)
 | (with_reducible refine aC hQ ?_;simp only [au,aw,Option.some.injEq,exists_eq_left',go_sem,hF,hP,hY,hZ];repeat' (first | exact Ok.out | with_reducible refine aB ?_ ?_ | (simp;done))))
theorem B3:pD.check=(0,0):=by decide +kernel
theorem Ro:Pc.yZ pD.procs=8:=by decide +kernel
theorem Rp:Da.check=(5,0):=by decide +kernel
theorem Rq (s:St):aE Tryz.prog qN [] s (.bool true) s:=by
 refine aE.pure ?_ rfl rfl s
 have e9:=Oj
 have OO:pD.size<100000:=by have:=Nat.le_of_ble_eq_true Gt;omega
 have Om:pD.may=true:=by decide +kernel
 have ho:pD.iC:=⟨AR Om (by omega),by omega⟩
 have h1:=fun s=>Yf JK (fun _=>⟨Om,rfl⟩) OO Oi s
 have e:D1 pD 0 0=(pD,0,0):=by unfold D1;rw [B3];rfl
 rw [e]at h1
 have h2:=fun s=>Rl ho s
 rw [B3]at h2
 have h3:=fun s=>Yc (p:=pD) (by omega) s
 rw [Ro]at h3
 have z0:((0:Int)==0)=true:=rfl
 have z8:(((8:Nat):Int)==8)=true:=rfl
 have z5:((5:Int)==5)=true:=rfl
 have h4':=fun s=>(DZ abA s).FO (d:= .agg [.slice .full 0 [], .slice .full 0 []]) (Wk.agg (.cons (Wk.nil _ _ _) (.cons (Wk.nil _ _ _) .nil)))
 simp only [Rp]at h4'
 unfold S0
 refine aE.go By rfl fun B Q hB hQ=> ?_
 have⟨hF,hP,hY,hZ⟩:=bq
 repeat' (first
 | simp only [go_sem,hF,hP,hY,hZ,z0,z8,z5,mY]
 | (with_reducible refine CU (UM _) ?_)
 | (with_reducible refine CU (abz _) ?_)
 | (with_reducible refine CU (h1 _) ?_)
 | (with_reducible refine CU (h2 _) ?_)
 | (with_reducible refine CU (h3 _) ?_)
 | (with_reducible refine CU (h4' _) ?_)
 | (with_reducible refine aC hQ ?_;simp only [au,aw,Option.some.injEq,exists_eq_left',go_sem,hF,hP,hY,hZ];repeat' (first | exact Ok.out | with_reducible refine aB ?_ ?_ | (simp;done))))
end Go.Abs

/-! MayLaw -/

namespace Go.Abs
def TKs (l:List cj):Prop:=∀ t∈l,(t.kind=1→isName t.text=true)∧(t.kind=2→0≤t.n)
def GK {α:Type} (r:Rd) (o:Option (α×Rd)) (Q:α→Prop):Prop:=∀ p,o=some p→p.2.l=r.l∧(p.2.good=true→r.good=true∧Q p.1)
def GKR (r:Rd) (o:Option Rd):Prop:=∀ p,o=some p→p.l=r.l∧(p.good=true→r.good=true)
end Go.Abs

/-! MayLaw2 -/

namespace Go.Abs
def SmL (s:Sm):Prop:=∀ L,dG L=true→({s with labels:=L} : Sm).one=true
def awW (s:aF):Bool:=s == [98,114,101,97,107] || s == [99,111,110,116,105,110,117,101] || s == [114,101,116,117,114,110] || s == [103,111,116,111] || s == [114,101,97,100] || s == [112,114,105,110,116]
mutual
def Sm.okM (d:Int):Sm→Prop
 | ⟨id,kind,labels,name,proc,x,has,args,aZ,aP⟩=>(⟨id,kind,labels,name,proc,x,has,args,aZ,aP⟩:Sm).one=true∧d≤12∧Sm.On (d+1) aZ∧Sm.On (d+1) aP
def Sm.On (d:Int):List Sm→Prop
 | []=>True
 | s::l=>s.okM d∧Sm.On d l
end
def axC (d:Int) (s:Sm):Prop:=∀ L,dG L=true→({s with labels:=L} : Sm).okM d
structure Pc.okM (f:Pc):Prop where
 name:isName f.name=true
 params:Pm.dZ f.params=true∧f.params.length≤8
 vars:dG f.vars=true∧(f.vars.length:Int)≤16
 fin:dG f.fin=true
 body:Sm.On 1 f.body
end Go.Abs

/-! MayLaw3 -/

namespace Go.Abs
def Its (n:Nat) (sW:List It):Prop:=∀ (j:Nat) (it:It),sW[j]? = some it→it.s.id=((n+j+1:Nat):Int)∧it.deep≤12∧it.s.one=true
def Pc.tot:List Pc→Nat
 | []=>0
 | f::l=>Sm.eI f.body+Pc.tot l
end Go.Abs

/-! Lx -/

namespace Go.Abs
def isR (c:UInt8):Bool:=(c.toNat:Int)==35
inductive Lx:Nat→aF→List cj→Prop where
 | nil (pos:Nat):Lx pos [] []
 | blank (pos:Nat) (c:UInt8) (r:aF) (l:List cj) (h:vj c=true) (k:Lx (pos+1) r l):Lx pos (c::r) l
 | rem (pos:Nat) (c:UInt8) (r:aF) (l:List cj) (h:vj c=false) (h2:isR c=true) (k:Lx (pos+oB (c::r)) ((c::r).drop (oB (c::r))) l):Lx pos (c::r) l
 | tok (pos:Nat) (c:UInt8) (r:aF) (t:cj) (l:List cj) (h:vj c=false) (h2:isR c=false) (ht:E0 pos (c::r) = .inl t) (k:Lx (pos+t.text.length) ((c::r).drop t.text.length) l):Lx pos (c::r) (t::l)
def axD (n:Nat):cj:=⟨0,[],0,(n:Nat)⟩
end Go.Abs

/-! Lx2 -/

namespace Go.Abs
def aeo (c:UInt8):Bool:= !(pY c) && !(oA c) && !(c==61) && !(c==38) && !(c==124)
def Stop:aF→Prop
 | []=>True
 | c::_=>aeo c=true
def awX (t:cj):Prop:=0<t.text.length∧∀ (p:Nat) (b:aF),Stop b→E0 p (t.text++b) = .inl {t with pos:=(p:Nat)}
end Go.Abs
