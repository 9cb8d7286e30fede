/-
  What is proved here: part 6 of the road to the claim (Nm3, MayEq2, Tree1, Tree2, Sc1, Sc2, Sc3, ScP, Sc4, Rng, FineM, Sc5, Ar1, Ar2, Ar3, Srt1, Shelf, SortR, SrtP, Tc1, Tc2, Tc3, Bsl, Tc4, Tc5, Tc6, FlP, JmpP, Jm1, Jm2).
  No conditions.
-/
import Derived.Test.YtiopamakecmpkaaGreatCxT5
import Derived.Shelf.Small.Bits
import Derived.Shelf.Strconv.Itoa0
import Derived.Shelf.Sort.Plain
import Derived.Shelf.Slices.Turned
import Derived.Ground.Names2Prog
import Derived.Shelf.Slices.Clone
import Derived.Shelf.Slices.CompactS
import Derived.Shelf.Slices.Cells
import Derived.Shelf.Slices.In.SortNone
import Derived.Ground.SlgnProg
import Derived.Shelf.SlicesE.Clone
import Derived.Test.YtiopamakecmpkaaGreatProg
import Derived.Sort.Walk0

set_option linter.unusedSimpArgs false
set_option linter.unusedVariables false
namespace Go.Abs
set_option maxRecDepth 8000
open Go.Proofs
def Ar.said (out:List aB):List Ar→List aB
 | []=>out
 |a::l=>Ar.said ((if a.ref then out++ [a.name]else out)++a.x.names) l
def Sm.qW (v:Sm):List aB:=if v.kind != 10 && v.name != []then [v.name]else []
def Sm.said (v:Sm):List aB:=Ar.said (v.qW++v.x.names) v.args
theorem gb (x:Ex):x.names.length≤x.size:=by
 unfold Ex.names
 split
 ·simpa using mj [] x
 ·exact zau _
def Ar.xD:List Ar→Prop
 | []=>True
 |a::l=>a.x.texts∧Ar.xD l
def Sm.mV (v:Sm):Prop:=v.x.texts∧(∀ a∈v.args,a.x.texts)∧v.x.size+Ar.aQ v.args<1000000
theorem eE {l nx:List aB} {n:Nat} (hn:n=l.length) (h:l.length+nx.length≤1000000000) {g:Tag} (o:List (List D)) :
 fP 1 16 (.slice (.tok 0) 1 (l.map encStr)) (.slice g 1 (nx.map encStr)) ⟨o,[some n]⟩=some (.slice (.tok 0) 1 ((l++nx).map encStr),⟨o,[some (l++nx).length]⟩):=by
 subst hn
 have:=Ce (size:=1) (bytes:=16) (t:=0) (rows:=l.map encStr) (new:=nx.map encStr) (g:=g) (s:=⟨o,[some l.length]⟩) (by simp only[zaC];unfold bh;omega) (by simp)
 rw[this]
 simp
theorem Ai {v:Sm} (hv:v.mV) (s:St):aC Tryz.prog 119 [.agg (bn v)] s (.slice .shared 1 (v.said.map encStr)) s:=by
 refine aC.pure ?_ (by simp only[D.bP,D.ok,ke];rfl) (by simp only[D.ok,Tag.ok,da];rfl) s
 obtain⟨DT,sM,dz⟩:=hv
 obtain⟨R,hG⟩ : ∃ R,v.said=R:=⟨_,rfl⟩
 rw[hG]
 simp only[Sm.said]at hG
 have hlen:v.args.length<1000000000:=by have:=Ar.cG v.args;omega
 have hx:=fun s=>mT (x:=v.x) (by omega) DT s
 have vB:=gb v.x
 unfold S0
 refine aC.go EP.h rfl fun B Q hB hQ=>?_
 have⟨hC,hE,hF,hS⟩:=bt
 have hF:17≤bh:=by unfold bh;omega
 by_cases hb:(v.kind != 10 && v.name != [])=true
 ·simp only [Sm.qW,hb,if_true]at hG
  rw[zaq]at hb
  obtain⟨b1,b2⟩:=hb
  have cY:=eE (l:= [v.name]) (nx:=v.x.names) (n:=1) rfl (by simp;omega) (g:= .shared)
  simp only[zag,zaf,zah,encStr]at cY
  have b3:(v.name == [])=false:=by simpa using b2
  repeat' (first
 |simp only[go_sem,hC,hE,hF,hS,b1,b2,b3,cY]
 |(with_reducible refine CU (hx _) ?_)
 | (with_reducible refine ay hQ ?_;exact aK))
  refine b9 1 1 ?_ ?_ (aV.ind (ι:=List Ar×Nat×List aB×Nat) (fun i=>v.args.drop i.2.1=i.1∧Ar.said i.2.2.1 i.1=R∧i.2.2.1.length+Ar.aQ i.1≤2000000∧i.2.2.2=i.2.2.1.length) (fun i=>i.1.length)
   (fun i=> [(3, .slice (.tok 0) 1 (i.2.2.1.map encStr)),(1, .ptr 0 0),(25, .slice .shared 6 (v.args.map dM)),(26, .int .i64 (v.args.length:Int)),(27, .int .i64 (i.2.1:Int))]) (fun i=>⟨[bn v],[some i.2.2.2]⟩) ?_ (v.args,0,([v.name]++v.x.names),(v.x.names.length+1)) ⟨rfl,hG,by simp at vB ⊢;omega,by simp⟩)
  ·(simp only[go_sem,hC,hE,hF,hS,zag,zaf,zah,encStr];try exact aT)
  ·(simp only[go_sem,hC,hE,hF,hS,zag,zaf,zah,encStr];try exact aT)
  rintro⟨rest,k,out,n'⟩ ⟨h1,h2,h3,h4⟩ IH
  dsimp only at h1 h2 h3 h4
  subst h4
  cases rest with
  |nil=>
   have hC:=drop_nil h1
   simp only[Ar.said]at h2
   subst h2
   repeat' (first
 |simp only[go_sem,hC,hE,hF,hS]
 | (with_reducible refine ay hQ ?_;exact aK))
  | cons a rest=>
   obtain⟨hE,g2,hC,g4⟩:=drop_cons h1
   have bm:k<4611686018427387904:=by omega
   simp only[Ar.said]at h2
   simp only[Ar.aQ]at h3
   have l6:=fun s=>mT (x:=a.x) (by have:=Ar.bX (zae hE);omega) (sM a (zae hE)) s
   have hl:=gb a.x
   have hF:(out.length+1)*17≤bh:=by unfold bh;omega
   rcases zad a.ref with b1|b1
   ·simp only [b1,if_true]at h2
    have cY:=eE (l:=out++ [a.name]) (nx:=a.x.names) (n:=out.length+1) (by simp) (by simp;omega) (g:= .shared)
    simp only[zag,zaf,zah,encStr]at cY
    repeat' (first
 |simp only[go_sem,hC,hE,hF,hS,b1,cY]
 |(with_reducible refine CU (l6 _) ?_)
 | (with_reducible refine ay hQ ?_;exact aK))
    refine b9 1 1 ?_ ?_ (IH (rest,k+1,out++ [a.name]++a.x.names,_) ⟨g2,h2,by simp;omega,by simp<;>omega⟩ (zac _))
    ·(simp only[go_sem,hC,hE,hF,hS,az bm,zag,zaf,zah,encStr];try exact aT)
    ·(simp only[go_sem,hC,hE,hF,hS,az bm,zag,zaf,zah,encStr];try exact aT)
   ·simp only [b1,zaa,if_false]at h2
    have cY:=eE (l:=out) (nx:=a.x.names) rfl (by omega) (g:= .shared)
    repeat' (first
 |simp only[go_sem,hC,hE,hF,hS,b1,cY]
 |(with_reducible refine CU (l6 _) ?_)
 | (with_reducible refine ay hQ ?_;exact aK))
    refine b9 1 1 ?_ ?_ (IH (rest,k+1,out++a.x.names,_) ⟨g2,h2,by simp;omega,by simp<;>omega⟩ (zac _))
    ·(simp only[go_sem,hC,hE,hF,hS,az bm];try exact aT)
    ·(simp only[go_sem,hC,hE,hF,hS,az bm];try exact aT)
 ·simp only [Sm.qW,hb,zaa,if_false,zaR]at hG
  have ld:(v.kind != 10 && v.name != [])=false:=by simpa using hb
  obtain⟨nx,F9⟩ : ∃ nx,nx=v.x.names:=⟨_,rfl⟩
  rw[← F9]at hG vB
  simp only[← F9]at hx
  by_cases yS:nx = []
  ·subst yS
   simp only[zah]at hx
   have cY : ∀ o:List (List D),fP 1 16 (.slice .full 0 []) (.slice .shared 1 []) ⟨o,[]⟩=some (.slice .full 0 [],⟨o,[]⟩):=fun o=>by simp[fP,bh]
   have HB:(v.kind != 10)=false∨(v.kind != 10)=true∧(v.name != [])=false:=by
    cases h1:(v.kind != 10)
    ·exact .inl rfl
    ·rw[h1]at ld;exact .inr ⟨rfl,by simpa using ld⟩
   rcases HB with b1|⟨b1,b2⟩
   ·rcases zad (v.name != [])with b2 | b2
    all_goals
     have b3:(v.name == []) = !(v.name != []):=by simp only[bne,zbB]
     rw[b2]at b3
     repeat' (first
 |simp only[go_sem,hC,hE,hF,hS,b1,b2,b3,zan,zao,cY]
 |(with_reducible refine CU (hx _) ?_)
 | (with_reducible refine ay hQ ?_;simp only [bp,bq,bS,bT,go_sem,hC,hE,hF,hS];repeat' (first | exact Ok.out | with_reducible refine eJ ?_ ?_ | (simp;done))))
    all_goals
     refine aV.gY 3 1 rfl ?_
     simp only[go_sem,hC,hE,hF,hS]
     refine b8 1 1 (aV.ind (ι:=List Ar×Nat×List aB×Nat) (fun i=>v.args.drop i.2.1=i.1∧Ar.said i.2.2.1 i.1=R∧i.2.2.1.length+Ar.aQ i.1≤2000000∧i.2.2.2=i.2.2.1.length) (fun i=>i.1.length)
      (fun i=> [(3, .slice (.tok 0) 1 (i.2.2.1.map encStr)),(1, .ptr 0 0),(25, .slice .shared 6 (v.args.map dM)),(26, .int .i64 (v.args.length:Int)),(27, .int .i64 (i.2.1:Int))]) (fun i=>⟨[bn v],[some i.2.2.2]⟩) ?_ (v.args,0,[],0) ⟨rfl,hG,by simp at vB ⊢;omega,by simp⟩)
     rintro⟨rest,k,out,n'⟩ ⟨h1,h2,h3,h4⟩ IH
     dsimp only at h1 h2 h3 h4
     subst h4
     cases rest with
     |nil=>
      have hC:=drop_nil h1
      simp only[Ar.said]at h2
      subst h2
      repeat' (first
 |simp only[go_sem,hC,hE,hF,hS]
 |(with_reducible refine ay hQ ?_;exact aK))
     | cons a rest=>
      obtain⟨hE,g2,hC,g4⟩:=drop_cons h1
      have bm:k<4611686018427387904:=by omega
      simp only[Ar.said]at h2
      simp only[Ar.aQ]at h3
      have l6:=fun s=>mT (x:=a.x) (by have:=Ar.bX (zae hE);omega) (sM a (zae hE)) s
      have hl:=gb a.x
      have hF:(out.length+1)*17≤bh:=by unfold bh;omega
      rcases zad a.ref with b1|b1
      ·simp only [b1,if_true]at h2
       have cY:=eE (l:=out++ [a.name]) (nx:=a.x.names) (n:=out.length+1) (by simp) (by simp;omega) (g:= .shared)
       simp only[zag,zaf,zah,encStr]at cY
       repeat' (first
 |simp only[go_sem,hC,hE,hF,hS,b1,cY]
 |(with_reducible refine CU (l6 _) ?_)
 |(with_reducible refine ay hQ ?_;exact aK))
       refine b9 1 1 ?_ ?_ (IH (rest,k+1,out++ [a.name]++a.x.names,_) ⟨g2,h2,by simp;omega,by simp<;>omega⟩ (zac _))
       ·(simp only[go_sem,hC,hE,hF,hS,az bm,zag,zaf,zah,encStr];try exact aT)
       ·(simp only[go_sem,hC,hE,hF,hS,az bm,zag,zaf,zah,encStr];try exact aT)
      ·simp only [b1,zaa,if_false]at h2
       have cY:=eE (l:=out) (nx:=a.x.names) rfl (by omega) (g:= .shared)
       repeat' (first
 |simp only[go_sem,hC,hE,hF,hS,b1,cY]
 |(with_reducible refine CU (l6 _) ?_)
 | (with_reducible refine ay hQ ?_;exact aK))
       refine b9 1 1 ?_ ?_ (IH (rest,k+1,out++a.x.names,_) ⟨g2,h2,by simp;omega,by simp<;>omega⟩ (zac _))
       ·(simp only[go_sem,hC,hE,hF,hS,az bm];try exact aT)
       ·(simp only[go_sem,hC,hE,hF,hS,az bm];try exact aT)
   ·have b3:(v.name == [])=true:=by simpa using b2
    repeat' (first
 |simp only[go_sem,hC,hE,hF,hS,b1,b2,b3,cY]
 |(with_reducible refine CU (hx _) ?_)
 | (with_reducible refine ay hQ ?_;exact aK))
    refine aV.gY 3 1 rfl ?_
    simp only[go_sem,hC,hE,hF,hS]
    refine b8 1 1 (aV.ind (ι:=List Ar×Nat×List aB×Nat) (fun i=>v.args.drop i.2.1=i.1∧Ar.said i.2.2.1 i.1=R∧i.2.2.1.length+Ar.aQ i.1≤2000000∧i.2.2.2=i.2.2.1.length) (fun i=>i.1.length)
     (fun i=> [(3, .slice (.tok 0) 1 (i.2.2.1.map encStr)),(1, .ptr 0 0),(25, .slice .shared 6 (v.args.map dM)),(26, .int .i64 (v.args.length:Int)),(27, .int .i64 (i.2.1:Int))]) (fun i=>⟨[bn v],[some i.2.2.2]⟩) ?_ (v.args,0,[],0) ⟨rfl,hG,by simp at vB ⊢;omega,by simp⟩)
    rintro⟨rest,k,out,n'⟩ ⟨h1,h2,h3,h4⟩ IH
    dsimp only at h1 h2 h3 h4
    subst h4
    cases rest with
    |nil=>
     have hC:=drop_nil h1
     simp only[Ar.said]at h2
     subst h2
     repeat' (first
 |simp only[go_sem,hC,hE,hF,hS]
 | (with_reducible refine ay hQ ?_;exact aK))
    | cons a rest=>
     obtain⟨hE,g2,hC,g4⟩:=drop_cons h1
     have bm:k<4611686018427387904:=by omega
     simp only[Ar.said]at h2
     simp only[Ar.aQ]at h3
     have l6:=fun s=>mT (x:=a.x) (by have:=Ar.bX (zae hE);omega) (sM a (zae hE)) s
     have hl:=gb a.x
     have hF:(out.length+1)*17≤bh:=by unfold bh;omega
     rcases zad a.ref with b1|b1
     ·simp only [b1,if_true]at h2
      have cY:=eE (l:=out++ [a.name]) (nx:=a.x.names) (n:=out.length+1) (by simp) (by simp;omega) (g:= .shared)
      simp only[zag,zaf,zah,encStr]at cY
      repeat' (first
 |simp only[go_sem,hC,hE,hF,hS,b1,cY]
 |(with_reducible refine CU (l6 _) ?_)
 |(with_reducible refine ay hQ ?_;exact aK))
      refine b9 1 1 ?_ ?_ (IH (rest,k+1,out++ [a.name]++a.x.names,_) ⟨g2,h2,by simp;omega,by simp<;>omega⟩ (zac _))
      ·(simp only[go_sem,hC,hE,hF,hS,az bm,zag,zaf,zah,encStr];try exact aT)
      ·(simp only[go_sem,hC,hE,hF,hS,az bm,zag,zaf,zah,encStr];try exact aT)
     ·simp only [b1,zaa,if_false]at h2
      have cY:=eE (l:=out) (nx:=a.x.names) rfl (by omega) (g:= .shared)
      repeat' (first
 |simp only[go_sem,hC,hE,hF,hS,b1,cY]
 |(with_reducible refine CU (l6 _) ?_)
 | (with_reducible refine ay hQ ?_;exact aK))
      refine b9 1 1 ?_ ?_ (IH (rest,k+1,out++a.x.names,_) ⟨g2,h2,by simp;omega,by simp<;>omega⟩ (zac _))
      ·(simp only[go_sem,hC,hE,hF,hS,az bm];try exact aT)
      ·(simp only[go_sem,hC,hE,hF,hS,az bm];try exact aT)
  ·have cY : ∀ o:List (List D),fP 1 16 (.slice .full 0 []) (.slice .shared 1 (nx.map encStr)) ⟨o,[]⟩=some (.slice (.tok 0) 1 (nx.map encStr),⟨o,[some nx.length]⟩):=fun o=>by
    have:nx.length*17≤bh:=by unfold bh;omega
    cases nx with
    |nil=>exact absurd rfl yS
    |cons a r=>simp only[zal]at this;simp[fP,this]
   have HB:(v.kind != 10)=false∨(v.kind != 10)=true∧(v.name != [])=false:=by
    cases h1:(v.kind != 10)
    ·exact .inl rfl
    ·rw[h1]at ld;exact .inr ⟨rfl,by simpa using ld⟩
   rcases HB with b1|⟨b1,b2⟩
   ·rcases zad (v.name != [])with b2 | b2
    all_goals
     have b3:(v.name == []) = !(v.name != []):=by simp only[bne,zbB]
     rw[b2]at b3
     repeat' (first
 |simp only[go_sem,hC,hE,hF,hS,b1,b2,b3,zan,zao,cY]
 |(with_reducible refine CU (hx _) ?_)
 | (with_reducible refine ay hQ ?_;simp only [bp,bq,bS,bT,go_sem,hC,hE,hF,hS];repeat' (first | exact Ok.out | with_reducible refine eJ ?_ ?_ | (simp;done))))
    all_goals
     refine b8 1 1 (aV.ind (ι:=List Ar×Nat×List aB×Nat) (fun i=>v.args.drop i.2.1=i.1∧Ar.said i.2.2.1 i.1=R∧i.2.2.1.length+Ar.aQ i.1≤2000000∧i.2.2.2=i.2.2.1.length) (fun i=>i.1.length)
      (fun i=> [(3, .slice (.tok 0) 1 (i.2.2.1.map encStr)),(1, .ptr 0 0),(25, .slice .shared 6 (v.args.map dM)),(26, .int .i64 (v.args.length:Int)),(27, .int .i64 (i.2.1:Int))]) (fun i=>⟨[bn v],[some i.2.2.2]⟩) ?_ (v.args,0,nx,_) ⟨rfl,hG,by simp at vB ⊢;omega,by simp⟩)
     rintro⟨rest,k,out,n'⟩ ⟨h1,h2,h3,h4⟩ IH
     dsimp only at h1 h2 h3 h4
     subst h4
     cases rest with
     |nil=>
      have hC:=drop_nil h1
      simp only[Ar.said]at h2
      subst h2
      repeat' (first
 |simp only[go_sem,hC,hE,hF,hS]
 |(with_reducible refine ay hQ ?_;exact aK))
     | cons a rest=>
      obtain⟨hE,g2,hC,g4⟩:=drop_cons h1
      have bm:k<4611686018427387904:=by omega
      simp only[Ar.said]at h2
      simp only[Ar.aQ]at h3
      have l6:=fun s=>mT (x:=a.x) (by have:=Ar.bX (zae hE);omega) (sM a (zae hE)) s
      have hl:=gb a.x
      have hF:(out.length+1)*17≤bh:=by unfold bh;omega
      rcases zad a.ref with b1|b1
      ·simp only [b1,if_true]at h2
       have cY:=eE (l:=out++ [a.name]) (nx:=a.x.names) (n:=out.length+1) (by simp) (by simp;omega) (g:= .shared)
       simp only[zag,zaf,zah,encStr]at cY
       repeat' (first
 |simp only[go_sem,hC,hE,hF,hS,b1,cY]
 |(with_reducible refine CU (l6 _) ?_)
 |(with_reducible refine ay hQ ?_;exact aK))
       refine b9 1 1 ?_ ?_ (IH (rest,k+1,out++ [a.name]++a.x.names,_) ⟨g2,h2,by simp;omega,by simp<;>omega⟩ (zac _))
       ·(simp only[go_sem,hC,hE,hF,hS,az bm,zag,zaf,zah,encStr];try exact aT)
       ·(simp only[go_sem,hC,hE,hF,hS,az bm,zag,zaf,zah,encStr];try exact aT)
      ·simp only [b1,zaa,if_false]at h2
       have cY:=eE (l:=out) (nx:=a.x.names) rfl (by omega) (g:= .shared)
       repeat' (first
 |simp only[go_sem,hC,hE,hF,hS,b1,cY]
 |(with_reducible refine CU (l6 _) ?_)
 | (with_reducible refine ay hQ ?_;exact aK))
       refine b9 1 1 ?_ ?_ (IH (rest,k+1,out++a.x.names,_) ⟨g2,h2,by simp;omega,by simp<;>omega⟩ (zac _))
       ·(simp only[go_sem,hC,hE,hF,hS,az bm];try exact aT)
       ·(simp only[go_sem,hC,hE,hF,hS,az bm];try exact aT)
   ·have b3:(v.name == [])=true:=by simpa using b2
    repeat' (first
 |simp only[go_sem,hC,hE,hF,hS,b1,b2,b3,cY]
 |(with_reducible refine CU (hx _) ?_)
 | (with_reducible refine ay hQ ?_;exact aK))
    refine b8 1 1 (aV.ind (ι:=List Ar×Nat×List aB×Nat) (fun i=>v.args.drop i.2.1=i.1∧Ar.said i.2.2.1 i.1=R∧i.2.2.1.length+Ar.aQ i.1≤2000000∧i.2.2.2=i.2.2.1.length) (fun i=>i.1.length)
     (fun i=> [(3, .slice (.tok 0) 1 (i.2.2.1.map encStr)),(1, .ptr 0 0),(25, .slice .shared 6 (v.args.map dM)),(26, .int .i64 (v.args.length:Int)),(27, .int .i64 (i.2.1:Int))]) (fun i=>⟨[bn v],[some i.2.2.2]⟩) ?_ (v.args,0,nx,_) ⟨rfl,hG,by simp at vB ⊢;omega,by simp⟩)
    rintro⟨rest,k,out,n'⟩ ⟨h1,h2,h3,h4⟩ IH
    dsimp only at h1 h2 h3 h4
    subst h4
    cases rest with
    |nil=>
     have hC:=drop_nil h1
     simp only[Ar.said]at h2
     subst h2
     repeat' (first
 |simp only[go_sem,hC,hE,hF,hS]
 | (with_reducible refine ay hQ ?_;exact aK))
    | cons a rest=>
     obtain⟨hE,g2,hC,g4⟩:=drop_cons h1
     have bm:k<4611686018427387904:=by omega
     simp only[Ar.said]at h2
     simp only[Ar.aQ]at h3
     have l6:=fun s=>mT (x:=a.x) (by have:=Ar.bX (zae hE);omega) (sM a (zae hE)) s
     have hl:=gb a.x
     have hF:(out.length+1)*17≤bh:=by unfold bh;omega
     rcases zad a.ref with b1|b1
     ·simp only [b1,if_true]at h2
      have cY:=eE (l:=out++ [a.name]) (nx:=a.x.names) (n:=out.length+1) (by simp) (by simp;omega) (g:= .shared)
      simp only[zag,zaf,zah,encStr]at cY
      repeat' (first
 |simp only[go_sem,hC,hE,hF,hS,b1,cY]
 |(with_reducible refine CU (l6 _) ?_)
 |(with_reducible refine ay hQ ?_;exact aK))
      refine b9 1 1 ?_ ?_ (IH (rest,k+1,out++ [a.name]++a.x.names,_) ⟨g2,h2,by simp;omega,by simp<;>omega⟩ (zac _))
      ·(simp only[go_sem,hC,hE,hF,hS,az bm,zag,zaf,zah,encStr];try exact aT)
      ·(simp only[go_sem,hC,hE,hF,hS,az bm,zag,zaf,zah,encStr];try exact aT)
     ·simp only [b1,zaa,if_false]at h2
      have cY:=eE (l:=out) (nx:=a.x.names) rfl (by omega) (g:= .shared)
      repeat' (first
 |simp only[go_sem,hC,hE,hF,hS,b1,cY]
 |(with_reducible refine CU (l6 _) ?_)
 |(with_reducible refine ay hQ ?_;exact aK))
      refine b9 1 1 ?_ ?_ (IH (rest,k+1,out++a.x.names,_) ⟨g2,h2,by simp;omega,by simp<;>omega⟩ (zac _))
      ·(simp only[go_sem,hC,hE,hF,hS,az bm];try exact aT)
      ·(simp only[go_sem,hC,hE,hF,hS,az bm];try exact aT)
theorem BO {v:Sm} (hv:v.mV) (s:St):aC Tryz.prog 84 [.agg (bn v)] s (.slice .shared 1 (v.said.map encStr)) s:=by
 refine aC.pure ?_ (by simp only[D.bP,D.ok,ke];rfl) (by simp only[D.ok,Tag.ok,da];rfl) s
 obtain⟨DT,sM,dz⟩:=hv
 obtain⟨R,hG⟩ : ∃ R,v.said=R:=⟨_,rfl⟩
 rw[hG]
 simp only[Sm.said]at hG
 have hlen:v.args.length<1000000000:=by have:=Ar.cG v.args;omega
 have hx:=fun s=>mU (x:=v.x) (by omega) DT s
 have vB:=gb v.x
 unfold S0
 refine aC.go G7.h rfl fun B Q hB hQ=>?_
 have⟨hC,hE,hF,hS⟩:=bt
 have hF:17≤bh:=by unfold bh;omega
 by_cases hb:(v.kind != 10 && v.name != [])=true
 ·simp only [Sm.qW,hb,if_true]at hG
  rw[zaq]at hb
  obtain⟨b1,b2⟩:=hb
  have cY:=eE (l:= [v.name]) (nx:=v.x.names) (n:=1) rfl (by simp;omega) (g:= .shared)
  simp only[zag,zaf,zah,encStr]at cY
  have b3:(v.name == [])=false:=by simpa using b2
  repeat' (first
 |simp only[go_sem,hC,hE,hF,hS,b1,b2,b3,cY]
 |(with_reducible refine CU (hx _) ?_)
 | (with_reducible refine ay hQ ?_;exact aK))
  refine b9 1 1 ?_ ?_ (aV.ind (ι:=List Ar×Nat×List aB×Nat) (fun i=>v.args.drop i.2.1=i.1∧Ar.said i.2.2.1 i.1=R∧i.2.2.1.length+Ar.aQ i.1≤2000000∧i.2.2.2=i.2.2.1.length) (fun i=>i.1.length)
   (fun i=> [(3, .slice (.tok 0) 1 (i.2.2.1.map encStr)),(1, .ptr 0 0),(25, .slice .shared 6 (v.args.map dM)),(26, .int .i64 (v.args.length:Int)),(27, .int .i64 (i.2.1:Int))]) (fun i=>⟨[bn v],[some i.2.2.2]⟩) ?_ (v.args,0,([v.name]++v.x.names),(v.x.names.length+1)) ⟨rfl,hG,by simp at vB ⊢;omega,by simp⟩)
  ·(simp only[go_sem,hC,hE,hF,hS,zag,zaf,zah,encStr];try exact aT)
  ·(simp only[go_sem,hC,hE,hF,hS,zag,zaf,zah,encStr];try exact aT)
  rintro⟨rest,k,out,n'⟩ ⟨h1,h2,h3,h4⟩ IH
  dsimp only at h1 h2 h3 h4
  subst h4
  cases rest with
  |nil=>
   have hC:=drop_nil h1
   simp only[Ar.said]at h2
   subst h2
   repeat' (first
 |simp only[go_sem,hC,hE,hF,hS]
 | (with_reducible refine ay hQ ?_;exact aK))
  | cons a rest=>
   obtain⟨hE,g2,hC,g4⟩:=drop_cons h1
   have bm:k<4611686018427387904:=by omega
   simp only[Ar.said]at h2
   simp only[Ar.aQ]at h3
   have l6:=fun s=>mU (x:=a.x) (by have:=Ar.bX (zae hE);omega) (sM a (zae hE)) s
   have hl:=gb a.x
   have hF:(out.length+1)*17≤bh:=by unfold bh;omega
   rcases zad a.ref with b1|b1
   ·simp only [b1,if_true]at h2
    have cY:=eE (l:=out++ [a.name]) (nx:=a.x.names) (n:=out.length+1) (by simp) (by simp;omega) (g:= .shared)
    simp only[zag,zaf,zah,encStr]at cY
    repeat' (first
 |simp only[go_sem,hC,hE,hF,hS,b1,cY]
 |(with_reducible refine CU (l6 _) ?_)
 | (with_reducible refine ay hQ ?_;exact aK))
    refine b9 1 1 ?_ ?_ (IH (rest,k+1,out++ [a.name]++a.x.names,_) ⟨g2,h2,by simp;omega,by simp<;>omega⟩ (zac _))
    ·(simp only[go_sem,hC,hE,hF,hS,az bm,zag,zaf,zah,encStr];try exact aT)
    ·(simp only[go_sem,hC,hE,hF,hS,az bm,zag,zaf,zah,encStr];try exact aT)
   ·simp only [b1,zaa,if_false]at h2
    have cY:=eE (l:=out) (nx:=a.x.names) rfl (by omega) (g:= .shared)
    repeat' (first
 |simp only[go_sem,hC,hE,hF,hS,b1,cY]
 |(with_reducible refine CU (l6 _) ?_)
 | (with_reducible refine ay hQ ?_;exact aK))
    refine b9 1 1 ?_ ?_ (IH (rest,k+1,out++a.x.names,_) ⟨g2,h2,by simp;omega,by simp<;>omega⟩ (zac _))
    ·(simp only[go_sem,hC,hE,hF,hS,az bm];try exact aT)
    ·(simp only[go_sem,hC,hE,hF,hS,az bm];try exact aT)
 ·simp only [Sm.qW,hb,zaa,if_false,zaR]at hG
  have ld:(v.kind != 10 && v.name != [])=false:=by simpa using hb
  obtain⟨nx,F9⟩ : ∃ nx,nx=v.x.names:=⟨_,rfl⟩
  rw[← F9]at hG vB
  simp only[← F9]at hx
  by_cases yS:nx = []
  ·subst yS
   simp only[zah]at hx
   have cY : ∀ o:List (List D),fP 1 16 (.slice .full 0 []) (.slice .shared 1 []) ⟨o,[]⟩=some (.slice .full 0 [],⟨o,[]⟩):=fun o=>by simp[fP,bh]
   have HB:(v.kind != 10)=false∨(v.kind != 10)=true∧(v.name != [])=false:=by
    cases h1:(v.kind != 10)
    ·exact .inl rfl
    ·rw[h1]at ld;exact .inr ⟨rfl,by simpa using ld⟩
   rcases HB with b1|⟨b1,b2⟩
   ·rcases zad (v.name != [])with b2 | b2
    all_goals
     have b3:(v.name == []) = !(v.name != []):=by simp only[bne,zbB]
     rw[b2]at b3
     repeat' (first
 |simp only[go_sem,hC,hE,hF,hS,b1,b2,b3,zan,zao,cY]
 |(with_reducible refine CU (hx _) ?_)
 | (with_reducible refine ay hQ ?_;simp only [bp,bq,bS,bT,go_sem,hC,hE,hF,hS];repeat' (first | exact Ok.out | with_reducible refine eJ ?_ ?_ | (simp;done))))
    all_goals
     refine aV.gY 3 1 rfl ?_
     simp only[go_sem,hC,hE,hF,hS]
     refine b8 1 1 (aV.ind (ι:=List Ar×Nat×List aB×Nat) (fun i=>v.args.drop i.2.1=i.1∧Ar.said i.2.2.1 i.1=R∧i.2.2.1.length+Ar.aQ i.1≤2000000∧i.2.2.2=i.2.2.1.length) (fun i=>i.1.length)
      (fun i=> [(3, .slice (.tok 0) 1 (i.2.2.1.map encStr)),(1, .ptr 0 0),(25, .slice .shared 6 (v.args.map dM)),(26, .int .i64 (v.args.length:Int)),(27, .int .i64 (i.2.1:Int))]) (fun i=>⟨[bn v],[some i.2.2.2]⟩) ?_ (v.args,0,[],0) ⟨rfl,hG,by simp at vB ⊢;omega,by simp⟩)
     rintro⟨rest,k,out,n'⟩ ⟨h1,h2,h3,h4⟩ IH
     dsimp only at h1 h2 h3 h4
     subst h4
     cases rest with
     |nil=>
      have hC:=drop_nil h1
      simp only[Ar.said]at h2
      subst h2
      repeat' (first
 |simp only[go_sem,hC,hE,hF,hS]
 |(with_reducible refine ay hQ ?_;exact aK))
     | cons a rest=>
      obtain⟨hE,g2,hC,g4⟩:=drop_cons h1
      have bm:k<4611686018427387904:=by omega
      simp only[Ar.said]at h2
      simp only[Ar.aQ]at h3
      have l6:=fun s=>mU (x:=a.x) (by have:=Ar.bX (zae hE);omega) (sM a (zae hE)) s
      have hl:=gb a.x
      have hF:(out.length+1)*17≤bh:=by unfold bh;omega
      rcases zad a.ref with b1|b1
      ·simp only [b1,if_true]at h2
       have cY:=eE (l:=out++ [a.name]) (nx:=a.x.names) (n:=out.length+1) (by simp) (by simp;omega) (g:= .shared)
       simp only[zag,zaf,zah,encStr]at cY
       repeat' (first
 |simp only[go_sem,hC,hE,hF,hS,b1,cY]
 |(with_reducible refine CU (l6 _) ?_)
 |(with_reducible refine ay hQ ?_;exact aK))
       refine b9 1 1 ?_ ?_ (IH (rest,k+1,out++ [a.name]++a.x.names,_) ⟨g2,h2,by simp;omega,by simp<;>omega⟩ (zac _))
       ·(simp only[go_sem,hC,hE,hF,hS,az bm,zag,zaf,zah,encStr];try exact aT)
       ·(simp only[go_sem,hC,hE,hF,hS,az bm,zag,zaf,zah,encStr];try exact aT)
      ·simp only [b1,zaa,if_false]at h2
       have cY:=eE (l:=out) (nx:=a.x.names) rfl (by omega) (g:= .shared)
       repeat' (first
 |simp only[go_sem,hC,hE,hF,hS,b1,cY]
 |(with_reducible refine CU (l6 _) ?_)
 | (with_reducible refine ay hQ ?_;exact aK))
       refine b9 1 1 ?_ ?_ (IH (rest,k+1,out++a.x.names,_) ⟨g2,h2,by simp;omega,by simp<;>omega⟩ (zac _))
       ·(simp only[go_sem,hC,hE,hF,hS,az bm];try exact aT)
       ·(simp only[go_sem,hC,hE,hF,hS,az bm];try exact aT)
   ·have b3:(v.name == [])=true:=by simpa using b2
    repeat' (first
 |simp only[go_sem,hC,hE,hF,hS,b1,b2,b3,cY]
 |(with_reducible refine CU (hx _) ?_)
 | (with_reducible refine ay hQ ?_;exact aK))
    refine aV.gY 3 1 rfl ?_
    simp only[go_sem,hC,hE,hF,hS]
    refine b8 1 1 (aV.ind (ι:=List Ar×Nat×List aB×Nat) (fun i=>v.args.drop i.2.1=i.1∧Ar.said i.2.2.1 i.1=R∧i.2.2.1.length+Ar.aQ i.1≤2000000∧i.2.2.2=i.2.2.1.length) (fun i=>i.1.length)
     (fun i=> [(3, .slice (.tok 0) 1 (i.2.2.1.map encStr)),(1, .ptr 0 0),(25, .slice .shared 6 (v.args.map dM)),(26, .int .i64 (v.args.length:Int)),(27, .int .i64 (i.2.1:Int))]) (fun i=>⟨[bn v],[some i.2.2.2]⟩) ?_ (v.args,0,[],0) ⟨rfl,hG,by simp at vB ⊢;omega,by simp⟩)
    rintro⟨rest,k,out,n'⟩ ⟨h1,h2,h3,h4⟩ IH
    dsimp only at h1 h2 h3 h4
    subst h4
    cases rest with
    |nil=>
     have hC:=drop_nil h1
     simp only[Ar.said]at h2
     subst h2
     repeat' (first
 |simp only[go_sem,hC,hE,hF,hS]
 | (with_reducible refine ay hQ ?_;exact aK))
    | cons a rest=>
     obtain⟨hE,g2,hC,g4⟩:=drop_cons h1
     have bm:k<4611686018427387904:=by omega
     simp only[Ar.said]at h2
     simp only[Ar.aQ]at h3
     have l6:=fun s=>mU (x:=a.x) (by have:=Ar.bX (zae hE);omega) (sM a (zae hE)) s
     have hl:=gb a.x
     have hF:(out.length+1)*17≤bh:=by unfold bh;omega
     rcases zad a.ref with b1|b1
     ·simp only [b1,if_true]at h2
      have cY:=eE (l:=out++ [a.name]) (nx:=a.x.names) (n:=out.length+1) (by simp) (by simp;omega) (g:= .shared)
      simp only[zag,zaf,zah,encStr]at cY
      repeat' (first
 |simp only[go_sem,hC,hE,hF,hS,b1,cY]
 |(with_reducible refine CU (l6 _) ?_)
 |(with_reducible refine ay hQ ?_;exact aK))
      refine b9 1 1 ?_ ?_ (IH (rest,k+1,out++ [a.name]++a.x.names,_) ⟨g2,h2,by simp;omega,by simp<;>omega⟩ (zac _))
      ·(simp only[go_sem,hC,hE,hF,hS,az bm,zag,zaf,zah,encStr];try exact aT)
      ·(simp only[go_sem,hC,hE,hF,hS,az bm,zag,zaf,zah,encStr];try exact aT)
     ·simp only [b1,zaa,if_false]at h2
      have cY:=eE (l:=out) (nx:=a.x.names) rfl (by omega) (g:= .shared)
      repeat' (first
 |simp only[go_sem,hC,hE,hF,hS,b1,cY]
 |(with_reducible refine CU (l6 _) ?_)
 | (with_reducible refine ay hQ ?_;exact aK))
      refine b9 1 1 ?_ ?_ (IH (rest,k+1,out++a.x.names,_) ⟨g2,h2,by simp;omega,by simp<;>omega⟩ (zac _))
      ·(simp only[go_sem,hC,hE,hF,hS,az bm];try exact aT)
      ·(simp only[go_sem,hC,hE,hF,hS,az bm];try exact aT)
  ·have cY : ∀ o:List (List D),fP 1 16 (.slice .full 0 []) (.slice .shared 1 (nx.map encStr)) ⟨o,[]⟩=some (.slice (.tok 0) 1 (nx.map encStr),⟨o,[some nx.length]⟩):=fun o=>by
    have:nx.length*17≤bh:=by unfold bh;omega
    cases nx with
    |nil=>exact absurd rfl yS
    |cons a r=>simp only[zal]at this;simp[fP,this]
   have HB:(v.kind != 10)=false∨(v.kind != 10)=true∧(v.name != [])=false:=by
    cases h1:(v.kind != 10)
    ·exact .inl rfl
    ·rw[h1]at ld;exact .inr ⟨rfl,by simpa using ld⟩
   rcases HB with b1|⟨b1,b2⟩
   ·rcases zad (v.name != [])with b2 | b2
    all_goals
     have b3:(v.name == []) = !(v.name != []):=by simp only[bne,zbB]
     rw[b2]at b3
     repeat' (first
 |simp only[go_sem,hC,hE,hF,hS,b1,b2,b3,zan,zao,cY]
 |(with_reducible refine CU (hx _) ?_)
 | (with_reducible refine ay hQ ?_;simp only [bp,bq,bS,bT,go_sem,hC,hE,hF,hS];repeat' (first | exact Ok.out | with_reducible refine eJ ?_ ?_ | (simp;done))))
    all_goals
     refine b8 1 1 (aV.ind (ι:=List Ar×Nat×List aB×Nat) (fun i=>v.args.drop i.2.1=i.1∧Ar.said i.2.2.1 i.1=R∧i.2.2.1.length+Ar.aQ i.1≤2000000∧i.2.2.2=i.2.2.1.length) (fun i=>i.1.length)
      (fun i=> [(3, .slice (.tok 0) 1 (i.2.2.1.map encStr)),(1, .ptr 0 0),(25, .slice .shared 6 (v.args.map dM)),(26, .int .i64 (v.args.length:Int)),(27, .int .i64 (i.2.1:Int))]) (fun i=>⟨[bn v],[some i.2.2.2]⟩) ?_ (v.args,0,nx,_) ⟨rfl,hG,by simp at vB ⊢;omega,by simp⟩)
     rintro⟨rest,k,out,n'⟩ ⟨h1,h2,h3,h4⟩ IH
     dsimp only at h1 h2 h3 h4
     subst h4
     cases rest with
     |nil=>
      have hC:=drop_nil h1
      simp only[Ar.said]at h2
      subst h2
      repeat' (first
 |simp only[go_sem,hC,hE,hF,hS]
 |(with_reducible refine ay hQ ?_;exact aK))
     | cons a rest=>
      obtain⟨hE,g2,hC,g4⟩:=drop_cons h1
      have bm:k<4611686018427387904:=by omega
      simp only[Ar.said]at h2
      simp only[Ar.aQ]at h3
      have l6:=fun s=>mU (x:=a.x) (by have:=Ar.bX (zae hE);omega) (sM a (zae hE)) s
      have hl:=gb a.x
      have hF:(out.length+1)*17≤bh:=by unfold bh;omega
      rcases zad a.ref with b1|b1
      ·simp only [b1,if_true]at h2
       have cY:=eE (l:=out++ [a.name]) (nx:=a.x.names) (n:=out.length+1) (by simp) (by simp;omega) (g:= .shared)
       simp only[zag,zaf,zah,encStr]at cY
       repeat' (first
 |simp only[go_sem,hC,hE,hF,hS,b1,cY]
 |(with_reducible refine CU (l6 _) ?_)
 |(with_reducible refine ay hQ ?_;exact aK))
       refine b9 1 1 ?_ ?_ (IH (rest,k+1,out++ [a.name]++a.x.names,_) ⟨g2,h2,by simp;omega,by simp<;>omega⟩ (zac _))
       ·(simp only[go_sem,hC,hE,hF,hS,az bm,zag,zaf,zah,encStr];try exact aT)
       ·(simp only[go_sem,hC,hE,hF,hS,az bm,zag,zaf,zah,encStr];try exact aT)
      ·simp only [b1,zaa,if_false]at h2
       have cY:=eE (l:=out) (nx:=a.x.names) rfl (by omega) (g:= .shared)
       repeat' (first
 |simp only[go_sem,hC,hE,hF,hS,b1,cY]
 |(with_reducible refine CU (l6 _) ?_)
 | (with_reducible refine ay hQ ?_;exact aK))
       refine b9 1 1 ?_ ?_ (IH (rest,k+1,out++a.x.names,_) ⟨g2,h2,by simp;omega,by simp<;>omega⟩ (zac _))
       ·(simp only[go_sem,hC,hE,hF,hS,az bm];try exact aT)
       ·(simp only[go_sem,hC,hE,hF,hS,az bm];try exact aT)
   ·have b3:(v.name == [])=true:=by simpa using b2
    repeat' (first
 |simp only[go_sem,hC,hE,hF,hS,b1,b2,b3,cY]
 |(with_reducible refine CU (hx _) ?_)
 | (with_reducible refine ay hQ ?_;exact aK))
    refine b8 1 1 (aV.ind (ι:=List Ar×Nat×List aB×Nat) (fun i=>v.args.drop i.2.1=i.1∧Ar.said i.2.2.1 i.1=R∧i.2.2.1.length+Ar.aQ i.1≤2000000∧i.2.2.2=i.2.2.1.length) (fun i=>i.1.length)
     (fun i=> [(3, .slice (.tok 0) 1 (i.2.2.1.map encStr)),(1, .ptr 0 0),(25, .slice .shared 6 (v.args.map dM)),(26, .int .i64 (v.args.length:Int)),(27, .int .i64 (i.2.1:Int))]) (fun i=>⟨[bn v],[some i.2.2.2]⟩) ?_ (v.args,0,nx,_) ⟨rfl,hG,by simp at vB ⊢;omega,by simp⟩)
    rintro⟨rest,k,out,n'⟩ ⟨h1,h2,h3,h4⟩ IH
    dsimp only at h1 h2 h3 h4
    subst h4
    cases rest with
    |nil=>
     have hC:=drop_nil h1
     simp only[Ar.said]at h2
     subst h2
     repeat' (first
 |simp only[go_sem,hC,hE,hF,hS]
 | (with_reducible refine ay hQ ?_;exact aK))
    | cons a rest=>
     obtain⟨hE,g2,hC,g4⟩:=drop_cons h1
     have bm:k<4611686018427387904:=by omega
     simp only[Ar.said]at h2
     simp only[Ar.aQ]at h3
     have l6:=fun s=>mU (x:=a.x) (by have:=Ar.bX (zae hE);omega) (sM a (zae hE)) s
     have hl:=gb a.x
     have hF:(out.length+1)*17≤bh:=by unfold bh;omega
     rcases zad a.ref with b1|b1
     ·simp only [b1,if_true]at h2
      have cY:=eE (l:=out++ [a.name]) (nx:=a.x.names) (n:=out.length+1) (by simp) (by simp;omega) (g:= .shared)
      simp only[zag,zaf,zah,encStr]at cY
      repeat' (first
 |simp only[go_sem,hC,hE,hF,hS,b1,cY]
 |(with_reducible refine CU (l6 _) ?_)
 |(with_reducible refine ay hQ ?_;exact aK))
      refine b9 1 1 ?_ ?_ (IH (rest,k+1,out++ [a.name]++a.x.names,_) ⟨g2,h2,by simp;omega,by simp<;>omega⟩ (zac _))
      ·(simp only[go_sem,hC,hE,hF,hS,az bm,zag,zaf,zah,encStr];try exact aT)
      ·(simp only[go_sem,hC,hE,hF,hS,az bm,zag,zaf,zah,encStr];try exact aT)
     ·simp only [b1,zaa,if_false]at h2
      have cY:=eE (l:=out) (nx:=a.x.names) rfl (by omega) (g:= .shared)
      repeat' (first
 |simp only[go_sem,hC,hE,hF,hS,b1,cY]
 |(with_reducible refine CU (l6 _) ?_)
 |(with_reducible refine ay hQ ?_;exact aK))
      refine b9 1 1 ?_ ?_ (IH (rest,k+1,out++a.x.names,_) ⟨g2,h2,by simp;omega,by simp<;>omega⟩ (zac _))
      ·(simp only[go_sem,hC,hE,hF,hS,az bm];try exact aT)
      ·(simp only[go_sem,hC,hE,hF,hS,az bm];try exact aT)
theorem kO : ∀ (a b:List It) (n:Nat),It.cJ n (a++b)=(It.cJ n a && It.cJ (n+a.length) b)
 | [],b,n=>by simp[It.cJ]
 |i::a,b,n=>by
  simp only[zaH,It.cJ,kO a b (n+1),zal]
  have:n+1+a.length=n+(a.length+1):=by omega
  rw[this]
  split<;>simp
theorem DU (n:Nat) (i:It):It.cJ n [i] = true↔i.s.id=((n+1:Nat):Int)∧i.deep≤12∧i.s.one=true:=by
 simp only[It.cJ]
 split
 ·rename_i h
  simp only[zay,bne_iff_ne,ne_eq,decide_eq_true_eq,zaG]at h
  refine⟨fun h=>(Bool.false_ne_true h).elim,fun⟨h1,h2,h3⟩=>?_⟩
  rcases h with (h|h)|h
  ·exact(h h1).elim
  ·omega
  ·rw[h]at h3;cases h3
 ·rename_i h
  simp only[zay,bne_iff_ne,ne_eq,decide_eq_true_eq,zaG,not_or,Decidable.not_not,za4]at h
  exact⟨fun _=>⟨h.1.1,by omega,h.2⟩,fun _=>rfl⟩
mutual
theorem Aj (deep bF:Int) (aR:Bool) : ∀ (s:Sm) (out:List It),∃ new,ff deep bF aR out s=out++(⟨s,deep,bF,aR⟩::new)
 | ⟨id,kind,labels,name,proc,x,has,args,bb,e⟩,out=>by
  simp only[ff]
  split
  ·obtain⟨n1,h1⟩:=qp (deep+1) id false bb (out++ [⟨⟨id,kind,labels,name,proc,x,has,args,bb,e⟩,deep,bF,aR⟩])
   obtain⟨n2,h2⟩:=qp (deep+1) id true e (cW (deep+1) id false (out++ [⟨⟨id,kind,labels,name,proc,x,has,args,bb,e⟩,deep,bF,aR⟩]) bb)
   rw[h2,h1]
   exact⟨n1++n2,by simp⟩
  ·exact⟨[],rfl⟩
theorem qp (deep bF:Int) (aR:Bool) : ∀ (l:List Sm) (out:List It),∃ new,cW deep bF aR out l=out++new
 | [],out=>⟨[],by simp[cW]⟩
 | s::l,out=>by
  simp only[cW]
  split
  ·obtain⟨n1,h1⟩:=Aj deep bF aR s out
   obtain⟨n2,h2⟩:=qp deep bF aR l (ff deep bF aR out s)
   rw[h2,h1]
   exact⟨⟨s,deep,bF,aR⟩::n1++n2,by simp⟩
  ·exact⟨[],by simp⟩
end
theorem Ga {nest:Int} {n:Nat} {s:Sm} (h:(Sm.pG nest n s).1=true) :
 n+1≤200∧s.id=((n+1:Nat):Int)∧s.one=true∧(Sm.fW (nest+1) (n+1) s.bb).1=true∧(Sm.fW (nest+1) (Sm.fW (nest+1) (n+1) s.bb).2 s.aR).1=true∧
 (Sm.pG nest n s).2=(Sm.fW (nest+1) (Sm.fW (nest+1) (n+1) s.bb).2 s.aR).2:=by
 rw[E7]at h ⊢
 split at h
 ·cases h
 rename_i h1
 simp only[zay,bne_iff_ne,ne_eq,decide_eq_true_eq,zaG,not_or,Decidable.not_not,za4]at h1
 split at h
 ·cases h
 rename_i h2
 have sx:(Sm.fW (nest+1) (n+1) s.bb).1=true:=by simpa using h2
 refine⟨by omega,h1.1.1.2, ?_,sx,h, ?_⟩
 ·rw[DS,h1.1.2,h1.2];rfl
 ·rw[if_neg (by simp only[zay,bne_iff_ne,ne_eq,decide_eq_true_eq,zaG,not_or,Decidable.not_not,za4];exact h1),if_neg h2]
theorem sN {nest:Int} {n:Nat} {l:List Sm} (h:(Sm.fW nest n l).1=true):(l = []∨nest≤12)∧Sm.fW nest n l=Sm.eL nest n l:=by
 unfold Sm.fW gate at *
 split at h
 ·cases h
 ·rename_i hc
  rw[if_neg hc]
  refine⟨?_,rfl⟩
  simp only[zaq,decide_eq_true_eq,not_and]at hc
  cases l with
  |nil=>exact .inl rfl
  |cons s l=>right;simp only[zal]at hc;omega
mutual
theorem Sb : ∀ (s:Sm) (nest bF:Int) (aR:Bool) (n:Nat) (out:List It),nest≤12→out.length≤n→n≤200→(Sm.pG nest n s).1=true→
 ∃ new,ff nest bF aR out s=out++new∧It.cJ n new=true∧n+new.length=(Sm.pG nest n s).2∧(Sm.pG nest n s).2≤200
 | ⟨id,kind,labels,name,proc,x,has,args,bb,e⟩,nest,bF,aR,n,out,sI,ho,hn,h=>by
  obtain⟨h1,h2,h3,h4,h5,h6⟩:=Ga h
  dsimp only at h2 h4 h5 h6
  rw[h6]
  obtain⟨g1,e1⟩:=sN h4
  rw[e1]at h4 h5 ⊢
  obtain⟨g2,e2⟩:=sN h5
  rw[e2]at h5 ⊢
  have oO:It.cJ n [(⟨⟨id,kind,labels,name,proc,x,has,args,bb,e⟩,nest,bF,aR⟩:It)] = true:=(DU _ _).2 ⟨h2,sI,h3⟩
  obtain⟨n1,k1,k2,k3,k4⟩:=vE bb (nest+1) id false (n+1) (out++ [⟨⟨id,kind,labels,name,proc,x,has,args,bb,e⟩,nest,bF,aR⟩]) g1 (by simp;omega) h1 h4
  obtain⟨n2,j1,j2,j3,j4⟩:=vE e (nest+1) id true _ (out++ [⟨⟨id,kind,labels,name,proc,x,has,args,bb,e⟩,nest,bF,aR⟩]++n1) g2 (by simp;omega) k4 h5
  simp only[ff]
  rw[if_pos (by simpa using sI),k1,j1]
  refine⟨⟨⟨id,kind,labels,name,proc,x,has,args,bb,e⟩,nest,bF,aR⟩::(n1++n2),by simp, ?_, ?_,j4⟩
  ·have:(⟨⟨id,kind,labels,name,proc,x,has,args,bb,e⟩,nest,bF,aR⟩:It)::(n1++n2) = [⟨⟨id,kind,labels,name,proc,x,has,args,bb,e⟩,nest,bF,aR⟩]++n1++n2:=by simp
   rw[this,kO,kO,oO,zbc]
   have e3:n+([(⟨⟨id,kind,labels,name,proc,x,has,args,bb,e⟩,nest,bF,aR⟩:It)]++n1).length=(Sm.eL (nest+1) (n+1) bb).2:=by simp;omega
   rw[e3,j2]
   have e4:n + [(⟨⟨id,kind,labels,name,proc,x,has,args,bb,e⟩,nest,bF,aR⟩:It)].length=n+1:=rfl
   rw[e4,k2];rfl
  ·simp only[zal,zak];omega
theorem vE : ∀ (l:List Sm) (nest bF:Int) (aR:Bool) (n:Nat) (out:List It),(l = []∨nest≤12)→out.length≤n→n≤200→(Sm.eL nest n l).1=true→
 ∃ new,cW nest bF aR out l=out++new∧It.cJ n new=true∧n+new.length=(Sm.eL nest n l).2∧(Sm.eL nest n l).2≤200
 | [],nest,bF,aR,n,out,sI,ho,hn,h=>⟨[],by simp[cW],rfl,by simp[Sm.eL],by simpa[Sm.eL]using hn⟩
 |s::l,nest,bF,aR,n,out,sI,ho,hn,h=>by
  have acv:nest≤12:=sI.resolve_left (by simp)
  simp only[Sm.eL]at h ⊢
  split at h
  ·cases h
  rename_i hc
  rw[if_neg hc]
  obtain⟨n1,k1,k2,k3,k4⟩:=Sb s nest bF aR n out acv ho hn (by simpa using hc)
  obtain⟨n2,j1,j2,j3,j4⟩:=vE l nest bF aR _ (out++n1) (.inr acv) (by simp;omega) k4 h
  simp only[cW]
  rw[if_pos (by simp only[decide_eq_true_eq];omega),k1,j1]
  refine⟨n1++n2,by simp, ?_,by simp;omega,j4⟩
  rw[kO,k2,k3,j2];rfl
end
mutual
theorem Sc : ∀ (s:Sm) (nest bF:Int) (aR:Bool) (n:Nat) (out new:List It),ff nest bF aR out s=out++new→It.cJ n new=true→out.length≤n→n+new.length≤200→
 Sm.pG nest n s=(true,n+new.length)∧nest≤12
 | ⟨id,kind,labels,name,proc,x,has,args,bb,e⟩,nest,bF,aR,n,out,new,iy,hm,ho,hn=>by
  obtain⟨n0,h0⟩:=Aj nest bF aR ⟨id,kind,labels,name,proc,x,has,args,bb,e⟩ out
  have e0:new = ⟨⟨id,kind,labels,name,proc,x,has,args,bb,e⟩,nest,bF,aR⟩::n0:=List.append_cancel_left (iy.symm.trans h0)
  subst e0
  have afl:(⟨⟨id,kind,labels,name,proc,x,has,args,bb,e⟩,nest,bF,aR⟩:It)::n0 = [⟨⟨id,kind,labels,name,proc,x,has,args,bb,e⟩,nest,bF,aR⟩]++n0:=rfl
  rw[afl,kO,zaq]at hm
  obtain⟨Jd,BP⟩:=hm
  obtain⟨c1,c2,c3⟩:=(DU _ _).1 Jd
  dsimp only at c1 c2 c3
  simp only[zal]at hn ⊢
  have V9:cW (nest+1) id true (cW (nest+1) id false (out++ [⟨⟨id,kind,labels,name,proc,x,has,args,bb,e⟩,nest,bF,aR⟩]) bb) e=out++([⟨⟨id,kind,labels,name,proc,x,has,args,bb,e⟩,nest,bF,aR⟩]++n0):=by
   simp only[ff]at iy
   rw[if_pos (by simpa using c2)]at iy
   exact iy
  obtain⟨n1,g1⟩:=qp (nest+1) id false bb (out++ [⟨⟨id,kind,labels,name,proc,x,has,args,bb,e⟩,nest,bF,aR⟩])
  obtain⟨n2,g2⟩:=qp (nest+1) id true e (cW (nest+1) id false (out++ [⟨⟨id,kind,labels,name,proc,x,has,args,bb,e⟩,nest,bF,aR⟩]) bb)
  have en:n0=n1++n2:=by
   rw[g2,g1]at V9
   simp only[zaD,List.append_cancel_left_eq]at V9
   exact V9.symm
  subst en
  have Wa:It.cJ (n+1) (n1++n2)=true:=BP
  rw[kO,zaq]at Wa
  simp only[zak]at hn ⊢
  obtain⟨r1,r2⟩:=vF bb (nest+1) id false (n+1) _ n1 g1 Wa.1 (by simp;omega) (by omega)
  obtain⟨q1,q2⟩:=vF e (nest+1) id true (n+1+n1.length) _ n2 g2 Wa.2 (by rw[g1];simp;omega) (by omega)
  refine⟨?_,c2⟩
  have gg : ∀ {l:List Sm} {m:Nat} {r:Bool×Nat},Sm.eL (nest+1) m l=r→(l = []∨nest+1≤12)→Sm.fW (nest+1) m l=r:=by
   intro l m r h1 h2
   unfold Sm.fW gate
   rw[if_neg]
   ·exact h1
   ·simp only [zaq,decide_eq_true_eq,not_and]
    rcases h2 with h2|h2
    ·subst h2;simp
    ·omega
  have t1:=gg r1 r2
  have t2:=gg q1 q2
  rw[E7]
  dsimp only
  rw[t1]
  dsimp only
  rw[t2]
  rw[DS,zaq]at c3
  rw[if_neg]
  ·simp;omega
  ·simp only [zay,bne_iff_ne,ne_eq,decide_eq_true_eq,zaG,not_or,Decidable.not_not,za4]
   exact⟨⟨⟨by omega,c1⟩,c3.1⟩,c3.2⟩
theorem vF : ∀ (l:List Sm) (nest bF:Int) (aR:Bool) (n:Nat) (out new:List It),cW nest bF aR out l=out++new→It.cJ n new=true→out.length≤n→n+new.length≤200→
 Sm.eL nest n l=(true,n+new.length)∧(l = []∨nest≤12)
 | [],nest,bF,aR,n,out,new,iy,hm,ho,hn=>by
  simp only[cW]at iy
  have:new = []:=by simpa using iy
  subst this
  exact⟨by simp[Sm.eL], .inl rfl⟩
 | s::l,nest,bF,aR,n,out,new,iy,hm,ho,hn=>by
  simp only[cW]at iy
  rw[if_pos (by simp only[decide_eq_true_eq];omega)]at iy
  obtain⟨n1,g1⟩:=Aj nest bF aR s out
  obtain⟨n2,g2⟩:=qp nest bF aR l (ff nest bF aR out s)
  have en:new=(⟨s,nest,bF,aR⟩::n1)++n2:=by
   rw[g2,g1,zaD,List.append_cancel_left_eq]at iy
   exact iy.symm
  subst en
  rw[kO,zaq]at hm
  rw[zak]at hn ⊢
  obtain⟨r1,r2⟩:=Sc s nest bF aR n out _ g1 hm.1 ho (by omega)
  obtain⟨q1,q2⟩:=vF l nest bF aR (n+(⟨s,nest,bF,aR⟩::n1:List It).length) _ n2 g2 hm.2 (by rw[g1,zak];omega) (by omega)
  refine⟨?_, .inr r2⟩
  simp only[Sm.eL,r1,zan,zaa,↓reduceIte,q1]
  congr 1;omega
end
theorem Ak : ∀ (l:List Pc) (out:List It),out.length≤200→(Pc.eL out.length l=true↔Pc.kz l=true∧∃ new,allM out l=out++new∧(out++new).length≤200∧It.cJ out.length new=true)
 | [],out,ho=>by simp[Pc.eL,Pc.kz,allM,It.cJ];exact ho
 | f::l,out,ho=>by
  have rN : ∀ (l:List Pc) (out:List It),∃ new,allM out l=out++new:=by
   intro l
   induction l with
   |nil=>intro out;exact⟨[],by simp[allM]⟩
   | cons f l ih=>
    intro out
    simp only[allM]
    split
    ·exact⟨_,rfl⟩
    ·obtain⟨n1,h1⟩:=ih (out++f.flat)
     exact⟨f.flat++n1,by rw[h1,zaD]⟩
  simp only[Pc.eL,Pc.kz]
  have afm:(decide ((f.params.length:Int) > 8) ||decide ((f.vars.length:Int) > 16) || !(isName f.name) || !(cr f.vars) || !(cr f.fin))=(!(isName f.name) ||decide ((f.params.length:Int) > 8) ||decide ((f.vars.length:Int) > 16) || !(cr f.vars) || !(cr f.fin)):=by
   cases isName f.name<;>simp
  rw[afm]
  split
  ·simp
  split
  ·simp
  have hg:Sm.fW 1 out.length f.body=Sm.eL 1 out.length f.body:=by unfold Sm.fW gate;rw[if_neg (by simp)]
  rw[hg]
  constructor
  ·intro h
   split at h
   ·cases h
   rename_i hc
   obtain⟨n1,k1,k2,k3,k4⟩:=vE f.body 1 0 false out.length [] (.inr (by omega)) (by simp) ho (by simpa using hc)
   have iy:f.flat=n1:=by unfold Pc.flat;rw[k1];rfl
   rw[← k3, ← zak]at h
   obtain⟨hh,n2,j1,j2,j3⟩:=(Ak l (out++n1) (by rw[zak];omega)).1 h
   refine⟨hh,n1++n2, ?_,by simpa using j2, ?_⟩
   ·simp only [allM,iy]
    rw[if_neg (by simp only[zak,decide_eq_true_eq];omega),j1,zaD]
   ·rw[kO,k2, ← zak,j3];rfl
  ·rintro⟨hh,new,j1,j2,j3⟩
   simp only[allM]at j1
   split at j1
   ·rename_i hc
    have:new=f.flat:=(List.append_cancel_left j1).symm
    subst this
    simp only[decide_eq_true_eq]at hc
    omega
   rename_i hc
   simp only[decide_eq_true_eq]at hc
   obtain⟨n2,g2⟩:=rN l (out++f.flat)
   have en:new=f.flat++n2:=by
    rw[g2,zaD]at j1
    exact(List.append_cancel_left j1).symm
   subst en
   rw[kO,zaq]at j3
   rw[zak,zak]at j2
   obtain⟨r1,_⟩:=vF f.body 1 0 false out.length [] f.flat (by unfold Pc.flat;rfl) j3.1 (by simp) (by omega)
   rw[r1]
   simp only[zan,zaa,↓reduceIte]
   rw[← zak]
   exact(Ak l (out++f.flat) (by rw[zak];omega)).2 ⟨hh,n2,g2,by simp;omega,by rw[zak];exact j3.2⟩
theorem Fa (p:Pg):p.E9=p.may:=by
 have h:=Ak p.procs [] (by simp)
 unfold Pg.E9 Pg.may
 split
 ·rfl
 ·have e:Pc.eL 0 p.procs=(if !(Pc.kz p.procs)then false else if decide ((p.all.length:Int) > 200)then false else It.cJ 0 p.all):=by
   rw[Bool.eq_iff_iff]
   have h':Pc.eL 0 p.procs=true↔_:=h
   rw[h']
   have ha:p.all=allM [] p.procs:=rfl
   constructor
   ·rintro⟨h1,new,h2,h3,h4⟩
    rw[ha,h2,h1]
    simp only[zaR]at h3 ⊢
    simp only[zan,zaa,↓reduceIte]
    rw[if_neg (by simp only[decide_eq_true_eq];omega)]
    exact h4
   ·intro h1
    cases hh:Pc.kz p.procs
    ·rw[hh]at h1;simp at h1
    ·rw [hh]at h1
     simp only[zan,zaa,↓reduceIte]at h1
     split at h1
     ·cases h1
     ·rename_i hc
      simp only[decide_eq_true_eq]at hc
      exact⟨rfl,p.all,by rw[ha];rfl,by simp;omega,h1⟩
  exact e
set_option maxRecDepth 8000
open Go.Proofs
theorem DV {size bytes z:Nat} {g:Tag} {rows:List (List D)} {s:St} (h:rows.length*(bytes+1)≤bh) (hr:rows≠ []) :
 fP size bytes (.slice .full z []) (.slice g size rows) s=some (.slice (.tok s.aE.length) size rows,⟨s.aw,s.aE++ [some rows.length]⟩):=by
 cases rows with
 |nil=>exact absurd rfl hr
 |cons r l=>simp only[fP];simp at h ⊢;exact h
theorem vG {l:List aB} (hl:l.length<1073741824) (g:Tag) (s:St):aC Tryz.prog 138 [.slice g 1 (l.map encStr)] s (.slice .shared 1 (l.map encStr)) s:=by
 refine dG.zT (.cons (Wk.shared _ _ _) .nil) (aC.pure ?_ (by simp[D.bP,D.ok,Tag.ok,da]) (by simp[D.ok,Tag.ok,da]) s)
 unfold S0
 refine aC.go u9.h rfl fun B Q hB hQ=>?_
 have⟨hC,hE,hF,hS⟩:=bt
 cases l with
 |nil=>
  repeat' (first
 |simp only[go_sem,hC,hE,hF,hS]
 |(with_reducible refine ay hQ ?_;exact aK))
  refine IJ (fun _=>?_) ?_
  ·repeat' (first
 |simp only[go_sem,hC,hE,hF,hS,fP,true_or,zau]
 |(with_reducible refine ay hQ ?_;exact aK))
  ·repeat' (first
 |simp only[go_sem,hC,hE,hF,hS,fP,true_or,zau]
 |(with_reducible refine ay hQ ?_;exact aK))
 |cons x l=>
  have e:((x::l).map encStr).length*(16+1)≤bh:=by simp only[zaC,bh];omega
  have e2:=fun s=>DV (size:=1) (z:=1) (g:= .shared) (s:=s) e (by simp)
  simp only[zaf,encStr]at e2
  repeat' (first
 |simp only[go_sem,hC,hE,hF,hS,e2]
 |(with_reducible refine ay hQ ?_;exact aK))
theorem Wb {l:List Pm} (hl:l.length<1073741824) (g:Tag) (s:St):aC Tryz.prog 139 [.slice g 2 (l.map eH)] s (.slice .shared 2 (l.map eH)) s:=by
 refine dG.zT (.cons (Wk.shared _ _ _) .nil) (aC.pure ?_ (by simp[D.bP,D.ok,Tag.ok,OY]) (by simp[D.ok,Tag.ok,OY]) s)
 unfold S0
 refine aC.go s9.h rfl fun B Q hB hQ=>?_
 have⟨hC,hE,hF,hS⟩:=bt
 cases l with
 |nil=>
  repeat' (first
 |simp only[go_sem,hC,hE,hF,hS]
 |(with_reducible refine ay hQ ?_;exact aK))
  refine IJ (fun _=>?_) ?_
  ·repeat' (first
 |simp only[go_sem,hC,hE,hF,hS,fP,true_or,zau]
 |(with_reducible refine ay hQ ?_;exact aK))
  ·repeat' (first
 |simp only[go_sem,hC,hE,hF,hS,fP,true_or,zau]
 |(with_reducible refine ay hQ ?_;exact aK))
 |cons x l=>
  have e:((x::l).map eH).length*(24+1)≤bh:=by simp only[zaC,bh];omega
  have e2:=fun s=>DV (size:=2) (z:=2) (g:= .shared) (s:=s) e (by simp)
  simp only[zaf,encStr]at e2
  repeat' (first
 |simp only[go_sem,hC,hE,hF,hS,e2]
 |(with_reducible refine ay hQ ?_;exact aK))
theorem acw : ∀ n,n<1073741824→∀ x:Ex,x.size≤n→aC Tryz.prog 173 [.agg (bI x)] S0 (.agg (bI x)) S0:=by
 intro n
 induction n with
 |zero=>rintro _ ⟨op,m,name,kids⟩ h;simp only[Ex.size]at h;omega
 |succ n ihn=>
 rintro hn ⟨op,m,name,kids⟩ hx
 have hk : ∀ y∈kids,∀ s,aC Tryz.prog 173 [.agg (bI y)] s (.agg (bI y)) s:=fun y hy s=>
  (ihn (by omega) y (by simp only[Ex.size]at hx;have:=Ex.bX hy;omega)).pure (by simp[D.bP,D.ok,fK]) (by simp[D.ok,fK]) s
 have hlen:kids.length<1073741824:=by simp only[Ex.size]at hx;have:=Ex.cG kids;omega
 unfold S0
 refine aC.go Hc.h rfl fun B Q hB hQ=>?_
 have⟨hC,hE,hF,hS⟩:=bt
 repeat' (first
 |simp only[go_sem,hC,hE,hF,hS]
 |(with_reducible refine ay hQ ?_;exact aK))
 refine aV.qa 0 3 4 rfl rfl ?_
 simp only[go_sem,hC,hE,hF,hS]
 refine b8 2 1 (aV.ind (ι:=List Ex×Nat×List Ex) (fun i=>kids.drop i.2.1=i.1∧i.2.1=i.2.2.length∧i.2.2++i.1=kids) (fun i=>i.1.length)
  (fun i=> [(1, .ptr 0 0),(2, .ptr 1 0),(9, .slice .shared 4 (kids.map bI)),(10, .int .i64 (kids.length:Int)),(11, .int .i64 (i.2.1:Int))])
  (fun i=>⟨[[.int .i64 op, .int .i64 m, .str name, .slice (.tok 0) 4 (i.2.2.map bI)],bI iG],[some i.2.1]⟩) ?_ (kids,0,[]) ⟨rfl,rfl,rfl⟩)
 rintro⟨rest,k,acc⟩ ⟨h1,h2,h3⟩ IH
 dsimp only at h1 h2 h3
 subst h2
 cases rest with
 |nil=>
  have hC:=drop_nil h1
  rw[zaJ]at h3
  subst h3
  repeat' (first
 |simp only[go_sem,hC,hE,hF,hS]
 |(with_reducible refine ay hQ ?_;exact aK))
 |cons y rest=>
  obtain⟨hE,g2,hC,g4⟩:=drop_cons h1
  have hF:acc.length<4611686018427387904:=by omega
  have eN:(acc.length+1)*57≤bh:=by simp only[bh];omega
  have hy:=hk y (zae hE)
  repeat' (first
 |simp only[go_sem,hC,hE,hF,hS,eN]
 |(with_reducible refine CU (hy _) ?_)
 |(with_reducible refine ay hQ ?_;exact aK))
  refine b8 2 1 (IH (rest,acc.length+1,acc++ [y]) ⟨g2,by simp,by simp only[zaD,zaH,zaR];exact h3⟩ (zac _))
theorem Sd {x:Ex} (h:x.size<1073741824) (s:St):aC Tryz.prog 173 [.agg (bI x)] s (.agg (bI x)) s:=
 (acw x.size h x (zaj _)).pure (by simp[D.bP,D.ok,fK]) (by simp[D.ok,fK]) s
set_option maxRecDepth 8000
open Go.Proofs
abbrev Yg (b:Bool) (N:Nat):Prop:=∀ l:List Sm,Sm.aQ l<N→∀ n:Nat,n+Sm.aQ l<1073741824→∀ s:St,
 aC Tryz.prog 140 [.slice .shared 13 (l.map bn), .int .i64 (n:Int), .bool b] s (.tuple [.slice .shared 13 ((Sm.b7 b n l).1.map bn), .int .i64 ((Sm.b7 b n l).2:Int)]) s
theorem Wc {N:Nat} (ih:Yg true N) (l:List Sm) (hl:Sm.aQ l<N+1) (n:Nat) (hn:n+Sm.aQ l<1073741824) :
 aC Tryz.prog 140 [.slice .shared 13 (l.map bn), .int .i64 (n:Int), .bool true] S0 (.tuple [.slice .shared 13 ((Sm.b7 true n l).1.map bn), .int .i64 ((Sm.b7 true n l).2:Int)]) S0:=by
 unfold S0
 refine aC.go DA.h rfl fun B Q hB hQ=>?_
 have⟨hC,hE,hF,hS⟩:=bt
 repeat' (first
 |simp only[go_sem,hC,hE,hF,hS]
 |(with_reducible refine ay hQ ?_;exact aK))
 have hlen:l.length<1073741824:=by have:=Sm.cG l;omega
 refine aV.gY 8 13 rfl ?_
 simp only[go_sem,hC,hE,hF,hS]
 refine b8 0 1 (aV.ind (ι:=List Sm×Nat×List Sm×Nat) (fun i=>l.drop i.2.1=i.1∧i.2.1=i.2.2.1.length∧Sm.b7 true n l=(i.2.2.1++(Sm.b7 true i.2.2.2 i.1).1,(Sm.b7 true i.2.2.2 i.1).2)∧i.2.2.2+Sm.aQ i.1≤n+Sm.aQ l) (fun i=>i.1.length)
  (fun i=> [(1, .int .i64 (i.2.2.2:Int)),(2, .bool true),(8, .slice (.tok 0) 13 (i.2.2.1.map bn)),(14, .slice .shared 13 (l.map bn)),(15, .int .i64 (l.length:Int)),(16, .int .i64 (i.2.1:Int))])
  (fun i=>⟨[],[some i.2.1]⟩) ?_ (l,0,[],n) ⟨rfl,rfl,rfl,zaj _⟩)
 rintro⟨rest,k,acc,m⟩ ⟨h1,h2,h3,h4⟩ IH
 dsimp only at h1 h2 h3 h4
 subst h2
 cases rest with
 |nil=>
  have hC:=drop_nil h1
  simp only[Sm.b7,zaJ]at h3
  rw[h3]at hQ
  repeat' (first
 |simp only[go_sem,hC,hE,hF,hS]
 |(with_reducible refine ay hQ ?_;exact aK))
 |cons y rest=>
  obtain⟨hE,g2,hC,g4⟩:=drop_cons h1
  simp only[Sm.aQ]at h4 hl
  have hm:m<4611686018427387904:=by omega
  have hk:acc.length<4611686018427387904:=by omega
  have dz:y.size≤N:=by have:=Sm.bX (zae hE);omega
  obtain⟨id,kind,labels,name,proc,x,has,args,bb,aR⟩:=y
  simp only[Sm.size]at dz h4
  have eN:(acc.length+1)*209≤bh:=by simp only[bh];omega
  have hx:=fun s=>Sd (x:=x) (by omega) s
  simp only[iW]at hx
  have w9:=fun g s=>vG (l:=labels) (by omega) g s
  have rr:=Ar.cG args
  repeat' (first
 |simp only[go_sem,hC,hE,hF,hS,az hm]
 |(with_reducible refine CU (w9 _ _) ?_)
 |(with_reducible refine CU (hx _) ?_)
 | (with_reducible refine ay hQ ?_;exact aK))
  refine aV.qa 1 10 6 rfl rfl ?_
  simp only[go_sem,hC,hE,hF,hS]
  refine b8 2 2 (aV.ind (ι:=List Ar×Nat×List Ar) (fun i=>args.drop i.2.1=i.1∧i.2.1=i.2.2.length∧i.2.2++i.1=args) (fun i=>i.1.length)
   (fun i=> [(1, .int .i64 ((m+1:Nat):Int)),(2, .bool true),(8, .slice (.tok 0) 13 (acc.map bn)),(10, .ptr 0 0),(11, .ptr 1 0),(14, .slice .shared 13 (l.map bn)),(15, .int .i64 (l.length:Int)),(16, .int .i64 (acc.length:Int)),
    (36, .slice .shared 6 (args.map dM)),(37, .int .i64 (args.length:Int)),(38, .int .i64 (i.2.1:Int))])
   (fun i=>⟨[bn ⟨id,kind,labels,name,proc,x,has,args,bb,aR⟩,[.int .i64 ((m+1:Nat):Int), .int .i64 kind, .slice .shared 1 (labels.map encStr), .str name, .str proc, .int .i64 x.op, .int .i64 x.n, .str x.name, .slice .shared 4 (x.kids.map bI), .bool has, .slice (.tok 1) 6 (i.2.2.map dM), .slice .shared 13 (bb.map bn), .slice .shared 13 (aR.map bn)]],[some acc.length,some i.2.1]⟩) ?_ (args,0,[]) ⟨rfl,rfl,rfl⟩)
  rintro⟨Pf,ka,Fb⟩ ⟨j1,j2,j3⟩ IHa
  dsimp only at j1 j2 j3
  subst j2
  cases Pf with
  |nil=>
   have hC:=drop_nil j1
   rw[zaJ]at j3
   subst j3
   have b1:=Sm.tY true (m+1) bb
   have b2:=Sm.tY true (Sm.b7 true (m+1) bb).2 aR
   have c1:=ih bb (by omega) (m+1) (by omega)
   have c2:=ih aR (by omega) (Sm.b7 true (m+1) bb).2 (by omega)
   repeat' (first
 |simp only[go_sem,hC,hE,hF,hS,eN]
 |(with_reducible refine CU (c1 _) ?_)
 |(with_reducible refine CU (c2 _) ?_)
 | (with_reducible refine ay hQ ?_;exact aK))
   refine b9 0 1 ?_ ?_ (IH (rest,acc.length+1,acc++ [(Sm.num true m ⟨id,kind,labels,name,proc,x,has,Fb,bb,aR⟩).1],(Sm.num true m ⟨id,kind,labels,name,proc,x,has,Fb,bb,aR⟩).2) ⟨g2,by simp,by rw[h3];simp[Sm.b7],by simp only[Sm.num];omega⟩ (zac _))
   ·(simp only[go_sem,hC,hE,hF,hS,az hk,Sm.num];try exact aT)
   ·(simp only[go_sem,hC,hE,hF,hS,az hk,Sm.num];try exact aT)
  |cons a Pf=>
   obtain⟨hE,g2,hC,g4⟩:=drop_cons j1
   have ha:a.x.size<1073741824:=by have:=Ar.bX (zae hE);omega
   have FF:Fb.length<4611686018427387904:=by omega
   have acx:(Fb.length+1)*81≤bh:=by simp only[bh];omega
   have hxa:=fun s=>Sd ha s
   simp only[iW]at hxa
   obtain⟨ahQ,afo,ax⟩:=a
   repeat' (first
 |simp only[go_sem,hC,hE,hF,hS,acx]
 |(with_reducible refine CU (hxa _) ?_)
 | (with_reducible refine ay hQ ?_;exact aK))
   refine b9 2 2 ?_ ?_ (IHa (Pf,Fb.length+1,Fb++ [⟨ahQ,afo,ax⟩]) ⟨g2,by simp,by simp only[zaD,zaH,zaR];exact j3⟩ (zac _))
   ·(simp only[go_sem,hC,hE,hF,hS,az FF];try exact aT)
   ·(simp only[go_sem,hC,hE,hF,hS,az FF];try exact aT)
theorem ZF : ∀ N,Yg true N:=by
 intro N
 induction N with
 |zero=>intro l hl;exact absurd hl (zaM _)
 |succ N ih=>
  intro l hl n hn s
  exact(Wc ih l hl n hn).pure (by simp[D.bP,D.ok,Tag.ok,lz]) (by simp[D.bP,D.ok,Tag.ok,lz]) s
theorem afp {l:List Sm} {n:Nat} (h:n+Sm.aQ l<1073741824) (s:St) :
 aC Tryz.prog 140 [.slice .shared 13 (l.map bn), .int .i64 (n:Int), .bool true] s (.tuple [.slice .shared 13 ((Sm.b7 true n l).1.map bn), .int .i64 ((Sm.b7 true n l).2:Int)]) s:=
 ZF _ l (zac _) n h s
theorem Wd {p:Pg} (hp:p.size<1073741824):aC Tryz.prog 75 [.agg (bQ p)] S0 (.agg (bQ p.number)) S0:=by
 obtain⟨globals,procs⟩:=p
 simp only[Pg.size]at hp
 have hlen:procs.length<1073741824:=by have:=Pc.cG procs;omega
 have Se:=fun g s=>vG (l:=globals) (by omega) g s
 unfold S0
 refine aC.go Dn.h rfl fun B Q hB hQ=>?_
 have⟨hC,hE,hF,hS⟩:=bt
 repeat' (first
 |simp only[go_sem,hC,hE,hF,hS]
 |(with_reducible refine CU (Se _ _) ?_)
 |(with_reducible first|refine aX fun hc=>?_|refine aY fun hc=>?_|refine aZ (fun hc=>?_) fun hc=>?_)<;>(try simp only[hc,bs,↓reduceIte]at h)<;>try simp only[hc]
 |(with_reducible refine ay hQ ?_;exact aK))
 refine aV.qa 2 1 5 rfl rfl ?_
 simp only[go_sem,hC,hE,hF,hS]
 refine b8 3 1 (aV.ind (ι:=List Pc×Nat×List Pc×Nat) (fun i=>procs.drop i.2.1=i.1∧i.2.1=i.2.2.1.length∧Pc.b7 0 procs=i.2.2.1++Pc.b7 i.2.2.2 i.1∧i.2.2.2+Pc.aQ i.1≤Pc.aQ procs) (fun i=>i.1.length)
  (fun i=> [(2, .ptr 1 0),(3, .int .i64 (i.2.2.2:Int)),(4, .ptr 2 0),(13, .slice .shared 5 (procs.map cf)),(14, .int .i64 (procs.length:Int)),(15, .int .i64 (i.2.1:Int))])
  (fun i=>⟨[bQ ⟨globals,procs⟩,bQ tz,[.slice .shared 1 (globals.map encStr), .slice (.tok 0) 5 (i.2.2.1.map cf)]],[some i.2.1]⟩) ?_ (procs,0,[],0) ⟨rfl,rfl,rfl,by dsimp only;omega⟩)
 rintro⟨rest,k,acc,m⟩ ⟨h1,h2,h3,h4⟩ IH
 dsimp only at h1 h2 h3 h4
 subst h2
 cases rest with
 |nil=>
  have hC:=drop_nil h1
  simp only[Pc.b7,zaJ]at h3
  subst h3
  repeat' (first
 |simp only[go_sem,hC,hE,hF,hS,Pg.number]
 |(with_reducible first|refine aX fun hc=>?_|refine aY fun hc=>?_|refine aZ (fun hc=>?_) fun hc=>?_)<;>(try simp only[hc,bs,↓reduceIte]at h)<;>try simp only[hc]
 |(with_reducible refine ay hQ ?_;simp only[bp,bq,bS,bT,go_sem,hC,hE,hF,hS,Pg.number];try exact cp))
 |cons y rest=>
  obtain⟨hE,g2,hC,g4⟩:=drop_cons h1
  simp only[Pc.aQ]at h4
  have dz:=Pc.bX (zae hE)
  obtain⟨name,params,vars,body,fin⟩:=y
  simp only[Pc.size]at dz h4
  have hk:acc.length<4611686018427387904:=by omega
  have eN:(acc.length+1)*113≤bh:=by simp only[bh];omega
  have c1:=fun g s=>Wb (l:=params) (by omega) g s
  have c2:=fun g s=>vG (l:=vars) (by omega) g s
  have c3:=fun g s=>vG (l:=fin) (by omega) g s
  have c4:=fun s=>afp (l:=body) (n:=m) (by omega) s
  have b1:=Sm.tY true m body
  repeat' (first
 |simp only[go_sem,hC,hE,hF,hS,eN]
 |(with_reducible refine CU (c1 _ _) ?_)
 |(with_reducible refine CU (c2 _ _) ?_)
 |(with_reducible refine CU (c3 _ _) ?_)
 |(with_reducible refine CU (c4 _) ?_)
 |(with_reducible refine ay hQ ?_;exact aK))
  refine b9 3 1 ?_ ?_ (IH (rest,acc.length+1,acc++ [⟨name,params,vars,(Sm.b7 true m body).1,fin⟩],(Sm.b7 true m body).2) ⟨g2,by simp,by rw[h3];simp[Pc.b7],by dsimp only;omega⟩ (zac _))
  ·(simp only[go_sem,hC,hE,hF,hS,az hk];try exact aT)
  ·(simp only[go_sem,hC,hE,hF,hS,az hk];try exact aT)
theorem Wf {p q:Pg} (h:p.qk=some q) (s:St):aC Tryz.prog 75 [.agg (bQ p)] s (.agg (bQ q)) s:=by
 unfold Pg.qk at h
 split at h
 ·cases h;exact(Wd ‹_›).pure (by simp[D.bP,D.ok,fH]) (by simp[D.ok,fH]) s
 ·cases h
set_option maxRecDepth 8000
open Go.Proofs
def Cq (x:aB):List aB→Bool
 | []=>false
 |s::l=>if x==s then true else Cq x l
theorem Je (x:aB) : ∀ l:List aB,Cq x l=dq l x
 | []=>rfl
 | s::l=>by
  have h1:=fS (s::l) x
  have h2:=fS l x
  have h3:=Je x l
  simp only[Cq]
  by_cases e:x=s
  ·subst e;simp only[beq_self_eq_true,if_true];exact(h1.2 zaE).symm
  ·have e':(x==s)=false:=by simp [e]
   simp only[e',zaa,if_false,h3]
   cases ha:dq l x<;>cases hb:dq (s::l) x<;>simp_all
def pA (pre:List aB):List aB→Bool
 | []=>false
 |s::l=>if dq pre s then true else pA (pre++ [s]) l
def eo (l:List aB):Bool:=pA [] l
theorem Gb {l:List aB} {k:Nat} {a:aB} (h:l[k]? = some a):l.take (k+1)=l.take k++ [a]:=by rw[List.take_add_one,h];rfl
theorem wF {l:List aB} (hl:l.length<4611686018427387904) (x:aB) (g:Tag) (s:St):aC Tryz.prog 39 [.slice g 1 (l.map encStr), .str x] s (.bool (dq l x)) s:=by
 refine aC.FX (d':= .slice .shared 1 (l.map encStr)) ?_ (Wk.shared _ _ _)
 refine aC.pure ?_ (by simp[D.bP,D.ok,Tag.ok,da]) rfl s
 rw[← Ah]
 generalize h:qV x l=p
 unfold S0
 refine aC.go KX.h rfl fun B Q hB hQ=>?_
 have⟨hC,hE,hF,hS⟩:=bt
 repeat' (first
 |simp only[go_sem,hC,hE,hF,hS]
 |(with_reducible first|refine aX fun hc=>?_|refine aY fun hc=>?_|refine aZ (fun hc=>?_) fun hc=>?_)<;>(try simp only[hc,bs,↓reduceIte]at h)<;>try simp only[hc]
 |((with_reducible refine ay hQ ?_);exact cS))
 refine b8 0 0 (aV.ind (ι:=List aB×Nat) (fun i=>l.drop i.2=i.1∧qV x i.1=p) (fun i=>i.1.length)
  (fun i=> [(0, .slice .shared 1 (l.map encStr)),(1, .str x),(7, .int .i64 (l.length:Int)),(8, .int .i64 (i.2:Int))]) (fun i=>⟨[],[]⟩) ?_ (l,0) ⟨rfl,h⟩)
 rintro⟨rest,k⟩ ⟨h1,h⟩ IH
 dsimp only at h1 h
 cases rest with
 |nil=>
  have hC:=drop_nil h1
  simp only[qV]at h
  repeat' (first
 |simp only[go_sem,hC,hE,hF,hS]
 |(with_reducible first|refine aX fun hc=>?_|refine aY fun hc=>?_|refine aZ (fun hc=>?_) fun hc=>?_)<;>(try simp only[hc,bs,↓reduceIte]at h)<;>try simp only[hc]
 |((with_reducible refine ay hQ ?_);exact cS))
 |cons a rest=>
  obtain⟨hE,g2,hC,g4⟩:=drop_cons h1
  have bm:k<4611686018427387904:=by omega
  simp only[qV]at h
  repeat' (first
 |simp only[go_sem,hC,hE,hF,hS]
 |(with_reducible first|refine aX fun hc=>?_|refine aY fun hc=>?_|refine aZ (fun hc=>?_) fun hc=>?_)<;>(try simp only[hc,bs,↓reduceIte]at h)<;>try simp only[hc]
 |((with_reducible refine ay hQ ?_);exact cS))
  refine b9 0 0 ?_ ?_ (IH (rest,k+1) ⟨g2,h⟩ (zac _))
  ·(simp only[go_sem,hC,hE,hF,hS,az bm];try exact aT)
  ·(simp only[go_sem,hC,hE,hF,hS,az bm];try exact aT)
theorem Cr {l:List aB} (hl:l.length<4611686018427387904) (g:Tag) (s:St):aC Tryz.prog 59 [.slice g 1 (l.map encStr)] s (.bool (eo l)) s:=by
 refine aC.FX (d':= .slice .shared 1 (l.map encStr)) ?_ (Wk.shared _ _ _)
 refine aC.pure ?_ (by simp[D.bP,D.ok,Tag.ok,da]) rfl s
 generalize h:eo l=p
 simp only[eo]at h
 unfold S0
 refine aC.go Dl.h rfl fun B Q hB hQ=>?_
 have⟨hC,hE,hF,hS⟩:=bt
 repeat' (first
 |simp only[go_sem,hC,hE,hF,hS]
 |(with_reducible first|refine aX fun hc=>?_|refine aY fun hc=>?_|refine aZ (fun hc=>?_) fun hc=>?_)<;>(try simp only[hc,bs,↓reduceIte]at h)<;>try simp only[hc]
 |((with_reducible refine ay hQ ?_);exact cS))
 refine b8 0 0 (aV.ind (ι:=List aB×Nat) (fun i=>l.drop i.2=i.1∧pA (l.take i.2) i.1=p) (fun i=>i.1.length)
  (fun i=> [(0, .slice .shared 1 (l.map encStr)),(5, .slice .shared 1 (l.map encStr)),(6, .int .i64 (l.length:Int)),(7, .int .i64 (i.2:Int))]) (fun i=>⟨[],[]⟩) ?_ (l,0) ⟨rfl,h⟩)
 rintro⟨rest,k⟩ ⟨h1,h⟩ IH
 dsimp only at h1 h
 cases rest with
 |nil=>
  have hC:=drop_nil h1
  simp only[pA]at h
  repeat' (first
 |simp only[go_sem,hC,hE,hF,hS]
 |(with_reducible first|refine aX fun hc=>?_|refine aY fun hc=>?_|refine aZ (fun hc=>?_) fun hc=>?_)<;>(try simp only[hc,bs,↓reduceIte]at h)<;>try simp only[hc]
 |((with_reducible refine ay hQ ?_);exact cS))
 |cons a rest=>
  obtain⟨hE,g2,hC,g4⟩:=drop_cons h1
  have bm:k<4611686018427387904:=by omega
  simp only[pA]at h
  have hc:=jl (l:=l.take k) (by rw[zaL];omega) a
  have e1:List.drop 0 (List.take k (l.map encStr))=(l.take k).map encStr:=by simp[List.map_take]
  have c1:((0:Int)≤(k:Int))=True:=by simp
  have c2:((k:Int)≤(l.length:Int))=True:=by simp only[eq_iff_iff,iff_true];omega
  have e2:List.take k (l.map encStr)=(l.take k).map encStr:=by simp[List.map_take]
  repeat' (first
 |simp only[go_sem,hC,hE,hF,hS,e1,e2,c1,c2,or_true,true_and,and_self,ite_self,Int.toNat_natCast,List.drop_zero]
 |(with_reducible refine CU (hc _ _) ?_)
 |(with_reducible first|refine aX fun hc=>?_|refine aY fun hc=>?_|refine aZ (fun hc=>?_) fun hc=>?_)<;>(try simp only[hc,bs,↓reduceIte]at h)<;>try simp only[hc]
 |((with_reducible refine ay hQ ?_);(try cases h);simp only[bp,bq,bS,bT,go_sem,hC,hE,hF,hS,e1,e2,c1,c2,or_true,true_and,and_self,ite_self,Int.toNat_natCast,List.drop_zero];try exact cp))
  refine b9 0 0 ?_ ?_ (IH (rest,k+1) ⟨g2,by dsimp only;rw[Gb (by assumption)];exact h⟩ (zac _))
  ·(simp only[go_sem,hC,hE,hF,hS,az bm];try exact aT)
  ·(simp only[go_sem,hC,hE,hF,hS,az bm];try exact aT)
theorem uI {l:List aB} (hl:l.length<4611686018427387904) (g:Tag) (s:St):aC Tryz.prog 101 [.slice g 1 (l.map encStr)] s (.bool (eo l)) s:=by
 refine aC.FX (d':= .slice .shared 1 (l.map encStr)) ?_ (Wk.shared _ _ _)
 refine aC.pure ?_ (by simp[D.bP,D.ok,Tag.ok,da]) rfl s
 generalize h:eo l=p
 simp only[eo]at h
 unfold S0
 refine aC.go EN.h rfl fun B Q hB hQ=>?_
 have⟨hC,hE,hF,hS⟩:=bt
 repeat' (first
 |simp only[go_sem,hC,hE,hF,hS]
 |(with_reducible first|refine aX fun hc=>?_|refine aY fun hc=>?_|refine aZ (fun hc=>?_) fun hc=>?_)<;>(try simp only[hc,bs,↓reduceIte]at h)<;>try simp only[hc]
 |((with_reducible refine ay hQ ?_);exact cS))
 refine b8 0 0 (aV.ind (ι:=List aB×Nat) (fun i=>l.drop i.2=i.1∧pA (l.take i.2) i.1=p) (fun i=>i.1.length)
  (fun i=> [(0, .slice .shared 1 (l.map encStr)),(6, .int .i64 (l.length:Int)),(7, .int .i64 (i.2:Int))]) (fun i=>⟨[],[]⟩) ?_ (l,0) ⟨rfl,h⟩)
 rintro⟨rest,k⟩ ⟨h1,h⟩ IH
 dsimp only at h1 h
 cases rest with
 |nil=>
  have hC:=drop_nil h1
  simp only[pA]at h
  repeat' (first
 |simp only[go_sem,hC,hE,hF,hS]
 |(with_reducible first|refine aX fun hc=>?_|refine aY fun hc=>?_|refine aZ (fun hc=>?_) fun hc=>?_)<;>(try simp only[hc,bs,↓reduceIte]at h)<;>try simp only[hc]
 |((with_reducible refine ay hQ ?_);exact cS))
 |cons a rest=>
  obtain⟨hE,g2,hC,g4⟩:=drop_cons h1
  have bm:k<4611686018427387904:=by omega
  have Sf:=hE
  simp only[pA]at h
  repeat' (first
 |simp only[go_sem,hC,hE,hF,hS]
 | (with_reducible refine ay hQ ?_;exact aK))
  obtain⟨q,hq⟩ : ∃ q,Cq a (l.take k)=q:=⟨_,rfl⟩
  rw[← Je,hq]at h
  refine b8 0 0 (aV.ind (ι:=List aB×Nat) (fun i=>(l.take k).drop i.2=i.1∧Cq a i.1=q∧i.2≤k) (fun i=>i.1.length)
   (fun i=> [(0, .slice .shared 1 (l.map encStr)),(3, .int .i64 (k:Int)),(4, .int .i64 (i.2:Int)),(6, .int .i64 (l.length:Int)),(7, .int .i64 (k:Int))]) (fun i=>⟨[],[]⟩) ?_ (l.take k,0) ⟨rfl,hq,zau _⟩)
  rintro⟨jW,j⟩ ⟨j1,j2,j3⟩ mE
  dsimp only at j1 j2 j3
  cases jW with
  |nil=>
   have hj:j=k:=by have:=zaX.1 j1;rw[zaL]at this;omega
   subst hj
   simp only[Cq]at j2
   subst j2
   simp only[zaa,if_false]at h
   repeat' (first
 |simp only[go_sem,hC,hE,hF,hS,Int.lt_irrefl,decide_false]
 | (with_reducible refine ay hQ ?_;exact aK))
   refine b9 0 0 ?_ ?_ (IH (rest,j+1) ⟨g2,by dsimp only;rw[Gb Sf];exact h⟩ (zac _))
   ·(simp only[go_sem,hC,hE,hF,hS,az bm];try exact aT)
   ·(simp only[go_sem,hC,hE,hF,hS,az bm];try exact aT)
  | cons b jW=>
   obtain⟨ez,mF,gX,DW⟩:=drop_cons j1
   have hjk:j<k:=by rw[zaL]at DW;omega
   have eS:j<4611686018427387904:=by omega
   have BK:l[j]? = some b:=by rw[zaV]at ez;simpa[hjk]using ez
   have Yh:decide ((j:Int)<(k:Int))=true:=by simp;omega
   have hE':=BK
   simp only[Cq]at j2
   cases sJ:(a==b)
   ·simp only [sJ,zaa,if_false]at j2
    repeat' (first
 |simp only[go_sem,hC,hE,hF,hS,Yh,BK,Sf,sJ]
 |(with_reducible first|refine aX fun hc=>?_|refine aY fun hc=>?_|refine aZ (fun hc=>?_) fun hc=>?_)<;>(try simp only[hc,bs,↓reduceIte]at h)<;>try simp only[hc]
 | ((with_reducible refine ay hQ ?_);(try cases h);simp only [bp,bq,bS,bT,go_sem,hC,hE,hF,hS,Yh,BK,Sf,sJ];try exact cp))
    refine b9 0 0 ?_ ?_ (mE (jW,j+1) ⟨mF,j2,hjk⟩ (zac _))
    ·(simp only[go_sem,hC,hE,hF,hS,az eS];try exact aT)
    ·(simp only[go_sem,hC,hE,hF,hS,az eS];try exact aT)
   ·simp only [sJ,if_true]at j2
    subst j2
    simp only[if_true]at h
    repeat' (first
 |simp only[go_sem,hC,hE,hF,hS,Yh,BK,Sf,sJ]
 |(with_reducible first|refine aX fun hc=>?_|refine aY fun hc=>?_|refine aZ (fun hc=>?_) fun hc=>?_)<;>(try simp only[hc,bs,↓reduceIte]at h)<;>try simp only[hc]
 |((with_reducible refine ay hQ ?_);(try cases h);simp only[bp,bq,bS,bT,go_sem,hC,hE,hF,hS,Yh,BK,Sf,sJ];try exact cp))
set_option maxRecDepth 8000
open Go.Proofs
theorem fp (a b:Int) (s:St):aC Tryz.prog 99 [.int .i64 a, .int .i64 b] s (.agg [.int .i64 a, .int .i64 b]) s:=by
 refine aC.pure ?_ rfl rfl s
 unfold S0
 refine aC.go EL.h rfl fun B Q hB hQ=>?_
 have⟨hC,hE,hF,hS⟩:=bt
 repeat' (first
 |simp only[go_sem,hC,hE,hF,hS]
 |(with_reducible refine ay hQ ?_;exact aK))
def vH (vars globals:List aB) (name:aB):List Pm→Int
 | []=>if dq vars name then 4 else if dq globals name then 1 else 0
 |a::l=>if a.name==name then(if a.ref then 3 else 2)else vH vars globals name l
def Pc.jZ (p:Pg) (f:Pc) (name:aB):Int:=vH f.vars p.globals name f.params
theorem Jf {p:Pg} {f:Pc} (hp:f.params.length<1000000000) (hv:f.vars.length<1000000000) (hg:p.globals.length<1000000000) (name:aB) (s:St):aC Tryz.prog 120 [.agg (bQ p), .agg (cf f), .str name] s (.int .i64 (f.jZ p name)) s:=by
 refine aC.pure ?_ (by simp[D.bP,D.ok,fH,qL]) rfl s
 have pw:=jl (l:=f.vars) (by omega) name
 have sx:=jl (l:=p.globals) (by omega) name
 generalize h:f.jZ p name=q
 simp only[Pc.jZ]at h
 unfold S0
 refine aC.go EX.h rfl fun B Q hB hQ=>?_
 have⟨hC,hE,hF,hS⟩:=bt
 repeat' (first
 |simp only[go_sem,hC,hE,hF,hS]
 |(with_reducible refine ay hQ ?_;exact aK))
 refine b8 2 0 (aV.ind (ι:=List Pm×Nat) (fun i=>f.params.drop i.2=i.1∧vH f.vars p.globals name i.1=q) (fun i=>i.1.length)
  (fun i=> [(2, .str name),(3, .ptr 0 0),(4, .ptr 1 0),(10, .slice .shared 2 (f.params.map eH)),(11, .int .i64 (f.params.length:Int)),(12, .int .i64 (i.2:Int))]) (fun i=>⟨[bQ p,cf f],[]⟩) ?_ (f.params,0) ⟨rfl,h⟩)
 rintro⟨rest,k⟩ ⟨h1,h⟩ IH
 dsimp only at h1 h
 cases rest with
 | nil=>
  have hC:=drop_nil h1
  simp only[vH]at h
  rcases zad (dq f.vars name)with b1|b1
  ·simp only [b1,if_true]at h
   subst h
   repeat' (first
 |simp only[go_sem,hC,hE,hF,hS,b1]
 |(with_reducible refine CU (pw _ _) ?_)
 |(with_reducible refine CU (sx _ _) ?_)
 | (with_reducible refine ay hQ ?_;exact aK))
  ·simp only [b1,zaa,if_false]at h
   rcases zad (dq p.globals name)with b2|b2
   ·simp only [b2,if_true]at h
    subst h
    repeat' (first
 |simp only[go_sem,hC,hE,hF,hS,b1,b2]
 |(with_reducible refine CU (pw _ _) ?_)
 |(with_reducible refine CU (sx _ _) ?_)
 | (with_reducible refine ay hQ ?_;exact aK))
   ·simp only [b2,zaa,if_false]at h
    subst h
    repeat' (first
 |simp only[go_sem,hC,hE,hF,hS,b1,b2]
 |(with_reducible refine CU (pw _ _) ?_)
 |(with_reducible refine CU (sx _ _) ?_)
 |(with_reducible refine ay hQ ?_;exact aK))
 | cons a rest=>
  obtain⟨hE,g2,hC,g4⟩:=drop_cons h1
  have bm:k<4611686018427387904:=by omega
  simp only[vH]at h
  rcases zad (a.name==name)with b1|b1
  ·simp only [b1,if_true]at h
   rcases zad a.ref with b2|b2
   ·simp only [b2,if_true]at h
    subst h
    repeat' (first
 |simp only[go_sem,hC,hE,hF,hS,b1,b2]
 | (with_reducible refine ay hQ ?_;exact aK))
   ·simp only [b2,zaa,if_false]at h
    subst h
    repeat' (first
 |simp only[go_sem,hC,hE,hF,hS,b1,b2]
 | (with_reducible refine ay hQ ?_;exact aK))
  ·simp only [b1,zaa,if_false]at h
   repeat' (first
 |simp only[go_sem,hC,hE,hF,hS,b1]
 | (with_reducible refine ay hQ ?_;exact aK))
   refine b9 2 0 ?_ ?_ (IH (rest,k+1) ⟨g2,h⟩ (zac _))
   ·(simp only[go_sem,hC,hE,hF,hS,az bm];try exact aT)
   ·(simp only[go_sem,hC,hE,hF,hS,az bm];try exact aT)
theorem K0 {p:Pg} {f:Pc} (hp:f.params.length<1000000000) (hv:f.vars.length<1000000000) (hg:p.globals.length<1000000000) (name:aB) (s:St):aC Tryz.prog 102 [.agg (bQ p), .agg (cf f), .str name] s (.int .i64 (f.jZ p name)) s:=by
 refine aC.pure ?_ (by simp[D.bP,D.ok,fH,qL]) rfl s
 have pw:=wF (l:=f.vars) (by omega) name
 have sx:=wF (l:=p.globals) (by omega) name
 generalize h:f.jZ p name=q
 simp only[Pc.jZ]at h
 unfold S0
 refine aC.go G9.h rfl fun B Q hB hQ=>?_
 have⟨hC,hE,hF,hS⟩:=bt
 repeat' (first
 |simp only[go_sem,hC,hE,hF,hS]
 |(with_reducible refine ay hQ ?_;exact aK))
 refine b8 2 0 (aV.ind (ι:=List Pm×Nat) (fun i=>f.params.drop i.2=i.1∧vH f.vars p.globals name i.1=q) (fun i=>i.1.length)
  (fun i=> [(2, .str name),(3, .ptr 0 0),(4, .ptr 1 0),(10, .slice .shared 2 (f.params.map eH)),(11, .int .i64 (f.params.length:Int)),(12, .int .i64 (i.2:Int))]) (fun i=>⟨[bQ p,cf f],[]⟩) ?_ (f.params,0) ⟨rfl,h⟩)
 rintro⟨rest,k⟩ ⟨h1,h⟩ IH
 dsimp only at h1 h
 cases rest with
 | nil=>
  have hC:=drop_nil h1
  simp only[vH]at h
  rcases zad (dq f.vars name)with b1|b1
  ·simp only [b1,if_true]at h
   subst h
   repeat' (first
 |simp only[go_sem,hC,hE,hF,hS,b1]
 |(with_reducible refine CU (pw _ _) ?_)
 |(with_reducible refine CU (sx _ _) ?_)
 | (with_reducible refine ay hQ ?_;exact aK))
  ·simp only [b1,zaa,if_false]at h
   rcases zad (dq p.globals name)with b2|b2
   ·simp only [b2,if_true]at h
    subst h
    repeat' (first
 |simp only[go_sem,hC,hE,hF,hS,b1,b2]
 |(with_reducible refine CU (pw _ _) ?_)
 |(with_reducible refine CU (sx _ _) ?_)
 | (with_reducible refine ay hQ ?_;exact aK))
   ·simp only [b2,zaa,if_false]at h
    subst h
    repeat' (first
 |simp only[go_sem,hC,hE,hF,hS,b1,b2]
 |(with_reducible refine CU (pw _ _) ?_)
 |(with_reducible refine CU (sx _ _) ?_)
 |(with_reducible refine ay hQ ?_;exact aK))
 | cons a rest=>
  obtain⟨hE,g2,hC,g4⟩:=drop_cons h1
  have bm:k<4611686018427387904:=by omega
  simp only[vH]at h
  rcases zad (a.name==name)with b1|b1
  ·simp only [b1,if_true]at h
   rcases zad a.ref with b2|b2
   ·simp only [b2,if_true]at h
    subst h
    repeat' (first
 |simp only[go_sem,hC,hE,hF,hS,b1,b2]
 | (with_reducible refine ay hQ ?_;exact aK))
   ·simp only [b2,zaa,if_false]at h
    subst h
    repeat' (first
 |simp only[go_sem,hC,hE,hF,hS,b1,b2]
 | (with_reducible refine ay hQ ?_;exact aK))
  ·simp only [b1,zaa,if_false]at h
   repeat' (first
 |simp only[go_sem,hC,hE,hF,hS,b1]
 | (with_reducible refine ay hQ ?_;exact aK))
   refine b9 2 0 ?_ ?_ (IH (rest,k+1) ⟨g2,h⟩ (zac _))
   ·(simp only[go_sem,hC,hE,hF,hS,az bm];try exact aT)
   ·(simp only[go_sem,hC,hE,hF,hS,az bm];try exact aT)
def jm (name:aB):List Pc→Option Pc
 | []=>none
 |f::l=>if f.name==name then some f else jm name l
def Pg.find (p:Pg) (name:aB):Option Pc:=jm name p.procs
def pc0:Pc:=⟨[],[],[],[],[]⟩
theorem Sg:cf pc0 = [.str [], .slice .shared 2 [], .slice .shared 1 [], .slice .shared 13 [], .slice .shared 1 []]:=nd rfl
def jo (r:Option Pc):D:= .tuple [.agg (cf (r.getD pc0)), .bool r.isSome]
theorem acy (r:Option Pc):D.ok 0 0 (jo r)=true:=by simp[jo,D.ok,D.bP,qL]
theorem Si (f:Pc):cf f = [.str f.name, .slice .shared 2 (f.params.map eH), .slice .shared 1 (f.vars.map encStr), .slice .shared 13 (f.body.map bn), .slice .shared 1 (f.fin.map encStr)]:=nd rfl
theorem Bf {p:Pg} (hl:p.procs.length<1000000000) (name:aB) (s:St):aC Tryz.prog 100 [.agg (bQ p), .str name] s (jo (p.find name)) s:=by
 refine aC.pure ?_ (by simp[D.bP,D.ok,fH]) (acy _) s
 unfold Pg.find
 generalize h:jm name p.procs=q
 unfold S0
 refine aC.go EM.h rfl fun B Q hB hQ=>?_
 have⟨hC,hE,hF,hS⟩:=bt
 repeat' (first
 |simp only[go_sem,hC,hE,hF,hS,Si]
 |(with_reducible first|refine aX fun hc=>?_|refine aY fun hc=>?_|refine aZ (fun hc=>?_) fun hc=>?_)<;>(try simp only[hc,bs,↓reduceIte]at h)<;>try simp only[hc]
 |(with_reducible refine ay hQ ?_;simp only[bp,bq,bS,bT,go_sem,hC,hE,hF,hS,Si];try exact cp))
 refine b8 2 0 (aV.ind (ι:=List Pc×Nat) (fun i=>p.procs.drop i.2=i.1∧jm name i.1=q) (fun i=>i.1.length)
  (fun i=> [(1, .str name),(4, .ptr 1 0),(9, .slice .shared 5 (p.procs.map cf)),(10, .int .i64 (p.procs.length:Int)),(11, .int .i64 (i.2:Int))]) (fun i=>⟨[bQ p,[.str [], .slice .full 0 [], .slice .full 0 [], .slice .full 0 [], .slice .full 0 []]],[]⟩) ?_ (p.procs,0) ⟨rfl,h⟩)
 rintro⟨rest,k⟩ ⟨h1,h⟩ IH
 dsimp only at h1 h
 cases rest with
 |nil=>
  have hC:=drop_nil h1
  simp only[jm]at h
  subst h
  repeat' (first
 |simp only[go_sem,hC,hE,hF,hS,jo,zbH,zbu,Sg]
 |(with_reducible first|refine aX fun hc=>?_|refine aY fun hc=>?_|refine aZ (fun hc=>?_) fun hc=>?_)<;>(try simp only[hc,bs,↓reduceIte]at h)<;>try simp only[hc]
 |(with_reducible refine ay hQ ?_;simp only[bp,bq,bS,bT,go_sem,hC,hE,hF,hS,jo,zbH,zbu,Sg];try exact cp))
 | cons a rest=>
  obtain⟨hE,g2,hC,g4⟩:=drop_cons h1
  have bm:k<4611686018427387904:=by omega
  simp only[jm]at h
  rcases zad (a.name==name)with b1|b1
  ·simp only [b1,if_true]at h
   subst h
   repeat' (first
 |simp only[go_sem,hC,hE,hF,hS,b1,jo,zbv,zbl]
 |(with_reducible first|refine aX fun hc=>?_|refine aY fun hc=>?_|refine aZ (fun hc=>?_) fun hc=>?_)<;>(try simp only[hc,bs,↓reduceIte]at h)<;>try simp only[hc]
 | (with_reducible refine ay hQ ?_;simp only [bp,bq,bS,bT,go_sem,hC,hE,hF,hS,b1,jo,zbv,zbl];try exact cp))
  ·simp only [b1,zaa,if_false]at h
   repeat' (first
 |simp only[go_sem,hC,hE,hF,hS,b1]
 | (with_reducible refine ay hQ ?_;exact aK))
   refine b9 2 0 ?_ ?_ (IH (rest,k+1) ⟨g2,h⟩ (zac _))
   ·(simp only[go_sem,hC,hE,hF,hS,az bm];try exact aT)
   ·(simp only[go_sem,hC,hE,hF,hS,az bm];try exact aT)
set_option maxRecDepth 8000
open Go.Proofs
def Pc.oP (f:Pc):List aB:=f.params.map (·.name)
def Pc.own (f:Pc):List aB:=f.oP++f.vars
theorem afq {f:Pc} (hp:f.params.length<1000000) (hv:f.vars.length<1000000) (s:St):aC Tryz.prog 61 [.agg (cf f)] s (.slice .shared 1 (f.own.map encStr)) s:=by
 refine aC.pure ?_ (by simp[D.bP,D.ok,qL]) (by simp only[D.ok,Tag.ok,da];rfl) s
 generalize hR:f.own=R
 simp only[Pc.own]at hR
 unfold S0
 refine aC.go G4.h rfl fun B Q hB hQ=>?_
 have⟨hC,hE,hF,hS⟩:=bt
 repeat' (first
 |simp only[go_sem,hC,hE,hF,hS]
 |(with_reducible refine ay hQ ?_;exact aK))
 refine aV.gY 3 1 rfl ?_
 simp only[go_sem,hC,hE,hF,hS]
 refine b8 1 1 (aV.ind (ι:=List Pm×Nat×List aB×Nat) (fun i=>f.params.drop i.2.1=i.1∧i.2.2.1++i.1.map (·.name)=f.oP∧i.2.2.2=i.2.2.1.length) (fun i=>i.1.length)
  (fun i=> [(1, .ptr 0 0),(3, .slice (.tok 0) 1 (i.2.2.1.map encStr)),(7, .slice .shared 2 (f.params.map eH)),(8, .int .i64 (f.params.length:Int)),(9, .int .i64 (i.2.1:Int))]) (fun i=>⟨[cf f],[some i.2.2.2]⟩) ?_ (f.params,0,[],0) ⟨rfl,rfl,rfl⟩)
 rintro⟨rest,k,out,n⟩ ⟨h1,h2,h3⟩ IH
 dsimp only at h1 h2 h3
 subst h3
 have hlo:out.length+rest.length<1000000:=by
  have:=congrArg List.length h2
  simp only[zak,zaC,Pc.oP]at this
  omega
 cases rest with
 |nil=>
  have hC:=drop_nil h1
  simp only[zah,zaJ]at h2
  subst hR
  rw[← h2]at hQ
  have cY:=eE (l:=out) (nx:=f.vars) rfl (by omega) (g:= .shared)
  repeat' (first
 |simp only[go_sem,hC,hE,hF,hS,cY]
 |(with_reducible refine ay hQ ?_;exact aK))
 |cons a rest=>
  obtain⟨hE,g2,hC,g4⟩:=drop_cons h1
  have bm:k<4611686018427387904:=by omega
  have hF:(out.length+1)*17≤bh:=by unfold bh;omega
  repeat' (first
 |simp only[go_sem,hC,hE,hF,hS]
 |(with_reducible refine ay hQ ?_;exact aK))
  refine b9 1 1 ?_ ?_ (IH (rest,k+1,out++ [a.name],out.length+1) ⟨g2,by rw[← h2];simp,by simp⟩ (zac _))
  ·(simp only[go_sem,hC,hE,hF,hS,az bm,zag,zaf,zah,encStr];try exact aT)
  ·(simp only[go_sem,hC,hE,hF,hS,az bm,zag,zaf,zah,encStr];try exact aT)
theorem Wg {f:Pc} (hp:f.params.length<1000000) (s:St):aC Tryz.prog 82 [.agg (cf f)] s (.slice .shared 1 (f.oP.map encStr)) s:=by
 refine aC.pure ?_ (by simp[D.bP,D.ok,qL]) (by simp only[D.ok,Tag.ok,da];rfl) s
 generalize hR:f.oP=R
 unfold S0
 refine aC.go Dp.h rfl fun B Q hB hQ=>?_
 have⟨hC,hE,hF,hS⟩:=bt
 repeat' (first
 |simp only[go_sem,hC,hE,hF,hS]
 |(with_reducible refine ay hQ ?_;exact aK))
 refine aV.gY 3 1 rfl ?_
 simp only[go_sem,hC,hE,hF,hS]
 refine b8 1 1 (aV.ind (ι:=List Pm×Nat×List aB×Nat) (fun i=>f.params.drop i.2.1=i.1∧i.2.2.1++i.1.map (·.name)=R∧i.2.2.2=i.2.2.1.length∧i.2.2.1.length+i.1.length=f.params.length) (fun i=>i.1.length)
  (fun i=> [(1, .ptr 0 0),(3, .slice (.tok 0) 1 (i.2.2.1.map encStr)),(7, .slice .shared 2 (f.params.map eH)),(8, .int .i64 (f.params.length:Int)),(9, .int .i64 (i.2.1:Int))]) (fun i=>⟨[cf f],[some i.2.2.2]⟩) ?_ (f.params,0,[],0) ⟨rfl,hR,rfl,by simp⟩)
 rintro⟨rest,k,out,n⟩ ⟨h1,h2,h3,h4⟩ IH
 dsimp only at h1 h2 h3 h4
 subst h3
 cases rest with
 |nil=>
  have hC:=drop_nil h1
  simp only[zah,zaJ]at h2
  subst h2
  repeat' (first
 |simp only[go_sem,hC,hE,hF,hS]
 |(with_reducible refine ay hQ ?_;exact aK))
 |cons a rest=>
  obtain⟨hE,g2,hC,g4⟩:=drop_cons h1
  have bm:k<4611686018427387904:=by omega
  simp only[zal]at h4
  have hF:(out.length+1)*17≤bh:=by unfold bh;omega
  repeat' (first
 |simp only[go_sem,hC,hE,hF,hS]
 |(with_reducible refine ay hQ ?_;exact aK))
  refine b9 1 1 ?_ ?_ (IH (rest,k+1,out++ [a.name],out.length+1) ⟨g2,by rw[← h2];simp,by simp,by simp;omega⟩ (zac _))
  ·(simp only[go_sem,hC,hE,hF,hS,az bm,zag,zaf,zah,encStr];try exact aT)
  ·(simp only[go_sem,hC,hE,hF,hS,az bm,zag,zaf,zah,encStr];try exact aT)
def lA:aB:= [109,97,105,110]
def Sm.known (p:Pg) (f:Pc) (procs:List aB) (v:Sm):Bool:=
 !(v.said.any fun n=>f.jZ p n==0) && (v.kind != 4 ||(v.proc != lA && dq procs v.proc))
structure Pc.Small (p:Pg) (f:Pc):Prop where
 par:f.params.length<1000000
 vars:f.vars.length<1000000
 E6:p.globals.length<1000000
def sb (p:Pg) (f:Pc):List aB→Bool
 | []=>true
 |n::l=>if f.jZ p n==0 then false else sb p f l
theorem Al (p:Pg) (f:Pc) : ∀ l,sb p f l = !(l.any fun n=>f.jZ p n==0)
 | []=>rfl
 |n::l=>by
  simp only[sb,List.any_cons,Al p f l]
  cases (f.jZ p n==0)<;>simp
theorem yz (v:Sm) (h:v.mV):v.said.length<3000000:=by
 have : ∀ (l:List Ar) (out:List aB),(Ar.said out l).length≤out.length+2*Ar.aQ l:=by
  intro l
  induction l with
  |nil=>intro out;simp[Ar.said]
  |cons a l ih=>
   intro out
   simp only[Ar.said,Ar.aQ]
   refine zaN (ih _) ?_
   have:=gb a.x
   have:1≤a.x.size:=by obtain⟨_,_,_,_⟩:=a.x;simp[Ex.size]
   simp only[zak]
   split<;>simp<;>omega
 have h1:=this v.args (v.qW++v.x.names)
 have h2:=gb v.x
 have h3:=h.2.2
 have h4:v.qW.length≤1:=by unfold Sm.qW;split<;>simp
 simp only[zak]at h1
 unfold Sm.said
 omega
theorem ZG {p:Pg} {f:Pc} {procs:List aB} {v:Sm} (hs:f.Small p) (tE:procs.length<1000000) (hv:v.mV) (s:St):aC Tryz.prog 66 [.agg (bQ p), .agg (cf f), .slice .shared 1 (procs.map encStr), .agg (bn v)] s (.bool (v.known p f procs)) s:=by
 refine aC.pure ?_ (by simp[D.bP,D.ok,fH,qL,ke,Tag.ok,da]) rfl s
 have hn:=fun s=>Ai hv s
 have hk:=fun n s=>Jf (p:=p) (f:=f) (by have:=hs.par;omega) (by have:=hs.vars;omega) (by have:=hs.E6;omega) n s
 have acz:=jl (l:=procs) (by omega) v.proc
 have hl:=yz v hv
 generalize h:v.known p f procs=q
 simp only[Sm.known, ← Al]at h
 unfold S0
 refine aC.go Dm.h rfl fun B Q hB hQ=>?_
 have⟨hC,hE,hF,hS⟩:=bt
 repeat' (first
 |simp only[go_sem,hC,hE,hF,hS]
 |(with_reducible refine CU (hn _) ?_)
 |(with_reducible refine ay hQ ?_;exact aK))
 refine b8 3 0 (aV.ind (ι:=List aB×Nat) (fun i=>v.said.drop i.2=i.1∧(sb p f i.1 && (v.kind != 4 ||(v.proc != lA && dq procs v.proc)))=q) (fun i=>i.1.length)
  (fun i=> [(2, .slice .shared 1 (procs.map encStr)),(4, .ptr 0 0),(5, .ptr 1 0),(7, .ptr 2 0),(12, .slice .shared 1 (v.said.map encStr)),(13, .int .i64 (v.said.length:Int)),(14, .int .i64 (i.2:Int))]) (fun i=>⟨[bQ p,cf f,bn v],[]⟩) ?_ (v.said,0) ⟨rfl,h⟩)
 rintro⟨rest,k⟩ ⟨h1,h⟩ IH
 dsimp only at h1 h
 cases rest with
 | nil=>
  have hC:=drop_nil h1
  simp only[sb,zbc]at h
  rcases zad (v.kind != 4)with b1|b1
  ·simp only [b1,za6]at h
   subst h
   repeat' (first
 |simp only[go_sem,hC,hE,hF,hS,b1]
 | (with_reducible refine ay hQ ?_;exact aK))
  ·simp only [b1,zbd]at h
   rcases zad (v.proc != lA)with b2|b2
   ·simp only [b2,zbc]at h
    unfold lA at b2
    have b3:(v.proc == [109,97,105,110]) = !(v.proc != [109,97,105,110]):=by simp only[bne,zbB]
    rw[b2]at b3
    simp only[zan,zao]at b3
    subst h
    repeat' (first
 |simp only[go_sem,hC,hE,hF,hS,b1,b2,b3]
 |(with_reducible refine CU (acz _ _) ?_)
 | (with_reducible refine ay hQ ?_;exact aK))
   ·simp only [b2,zaO]at h
    unfold lA at b2
    have b3:(v.proc == [109,97,105,110]) = !(v.proc != [109,97,105,110]):=by simp only[bne,zbB]
    rw[b2]at b3
    simp only[zan,zao]at b3
    subst h
    repeat' (first
 |simp only[go_sem,hC,hE,hF,hS,b1,b2,b3]
 |(with_reducible refine CU (acz _ _) ?_)
 |(with_reducible refine ay hQ ?_;exact aK))
 | cons a rest=>
  obtain⟨hE,g2,hC,g4⟩:=drop_cons h1
  have bm:k<4611686018427387904:=by omega
  simp only[sb]at h
  rcases zad (f.jZ p a==0)with b1|b1
  ·simp only [b1,if_true,zaO]at h
   subst h
   repeat' (first
 |simp only[go_sem,hC,hE,hF,hS,b1]
 |(with_reducible refine CU (hk _ _) ?_)
 | (with_reducible refine ay hQ ?_;exact aK))
  ·simp only [b1,zaa,if_false]at h
   repeat' (first
 |simp only[go_sem,hC,hE,hF,hS,b1]
 |(with_reducible refine CU (hk _ _) ?_)
 | (with_reducible refine ay hQ ?_;exact aK))
   refine b9 3 0 ?_ ?_ (IH (rest,k+1) ⟨g2,h⟩ (zac _))
   ·(simp only[go_sem,hC,hE,hF,hS,az bm];try exact aT)
   ·(simp only[go_sem,hC,hE,hF,hS,az bm];try exact aT)
theorem LQ : ∀ (l pre:List aB),pA pre l=true↔(∃ x∈l,x∈pre)∨¬ l.Nodup
 | [],pre=>by simp[pA]
 | s::l,pre=>by
  simp only[pA]
  by_cases h:dq pre s=true
  ·simp only [h,if_true,true_iff]
   exact .inl ⟨s,zaE,(fS _ _).1 h⟩
  ·have h':s∉pre:=fun m=>h ((fS _ _).2 m)
   simp only[h,if_false,zaa]
   rw[LQ l (pre++ [s])]
   simp only[zaB,zbK,zaw,List.nodup_cons,exists_eq_or_imp]
   constructor
   ·rintro(⟨x,m,h1 | h1⟩ | h1)
    ·exact .inl (.inr ⟨x,m,h1⟩)
    ·have h1:x=s:=by simpa using h1
     subst h1;exact .inr fun h=>h.1 m
    ·exact .inr fun h=>h1 h.2
   ·rintro((h1 | ⟨x,m,h1⟩) | h1)
    ·exact absurd h1 h'
    ·exact .inl ⟨x,m, .inl h1⟩
    ·by_cases m:s∈l
     ·exact .inl ⟨s,m, .inr (.inl rfl)⟩
     ·exact .inr fun h=>h1 ⟨m,h⟩
theorem Gc (l:List aB):eo l=true↔¬ l.Nodup:=by
 unfold eo;rw[LQ];simp
theorem Sj (a b:List aB):eo (a++b)=(eo a ||(eo b ||b.any (dq a))):=by
 have h:eo (a++b)=true↔(eo a ||(eo b ||b.any (dq a)))=true:=by
  rw[Gc,List.nodup_append]
  simp only[zay,Gc,List.any_eq_true,fS]
  constructor
  ·intro h
   by_cases ha:a.Nodup
   ·by_cases hb:b.Nodup
    ·refine .inr (.inr (Classical.byContradiction fun hn=>h ⟨ha,hb,fun x hx y hy e=>hn ⟨y,hy,e ▸ hx⟩⟩))
    ·exact .inr (.inl hb)
   ·exact .inl ha
  ·rintro(h | h | ⟨x,h1,h2⟩) ⟨h3,h4,h5⟩
   ·exact h h3
   ·exact h h4
   ·exact h5 x h2 x h1 rfl
 cases h1:eo (a++b)<;>cases h2:(eo a ||(eo b ||b.any (dq a)))<;>simp_all
theorem Jg (name:aB) : ∀ (l:List Pc) (k:Nat),(jm name l=none∧n5 name (k:Int) (l.map (·.name)) = -1)∨∃ f j,jm name l=some f∧l[j]? = some f∧n5 name (k:Int) (l.map (·.name))=((k+j:Nat):Int)
 | [],k=> .inl ⟨rfl,rfl⟩
 | f::l,k=>by
  by_cases h:f.name=name
  ·subst h
   refine .inr ⟨f,0,by simp[jm],rfl,by simp[n5]⟩
  ·have h1:(f.name==name)=false:=by simp [h]
   have h2:(name==f.name)=false:=by simp[Ne.symm h]
   simp only[jm,h1,zaa,if_false,zaf,n5,h2]
   rcases Jg name l (k+1)with ⟨g1,g2⟩|⟨g,j,g1,g2,g3⟩
   ·exact .inl ⟨g1,by rw[← g2];rfl⟩
   ·refine .inr ⟨g,j+1,g1,by simpa using g2, ?_⟩
    rw[show((k:Int)+1)=((k+1:Nat):Int)from rfl,g3]
    congr 1;omega
theorem ml {name:aB} {f:Pc} : ∀ {l:List Pc},jm name l=some f→f∈l∧f.name=name
 |g::l,h=>by
  simp only[jm]at h
  split at h
  ·rename_i e;cases h;exact⟨zaE,by simpa using e⟩
  ·have:=ml h;exact⟨zaA _ this.1,this.2⟩
mutual
theorem Sk (deep bF:Int) (aR:Bool) (out:List It) : ∀ s:Sm,∃ e,ff deep bF aR out s=out++e
 | ⟨id,kind,labels,name,proc,x,has,args,bb,e⟩=>by
  simp only[ff]
  split
  ·obtain⟨e1,h1⟩:=oQ (deep+1) id false (out++ [⟨⟨id,kind,labels,name,proc,x,has,args,bb,e⟩,deep,bF,aR⟩]) bb
   obtain⟨e2,h2⟩:=oQ (deep+1) id true (cW (deep+1) id false (out++ [⟨⟨id,kind,labels,name,proc,x,has,args,bb,e⟩,deep,bF,aR⟩]) bb) e
   rw[h2,h1]
   exact⟨_,by rw[zaD,zaD]⟩
  ·exact⟨_,rfl⟩
theorem oQ (deep bF:Int) (aR:Bool) (out:List It) : ∀ l:List Sm,∃ e,cW deep bF aR out l=out++e
 | []=>⟨[],by simp[cW]⟩
 | s::l=>by
  simp only[cW]
  split
  ·obtain⟨e1,h1⟩:=Sk deep bF aR out s
   obtain⟨e2,h2⟩:=oQ deep bF aR (ff deep bF aR out s) l
   rw[h2,h1]
   exact⟨_,by rw[zaD]⟩
  ·exact⟨[],by simp⟩
end
mutual
theorem Sl (deep bF:Int) (aR:Bool) (out:List It) : ∀ s:Sm,(ff deep bF aR out s).length≤200→(∀ i∈ff deep bF aR out s,i.deep≤12)→(ff deep bF aR out s).map It.s=out.map It.s++s.pre
 | ⟨id,kind,labels,name,proc,x,has,args,bb,e⟩,h1,h2=>by
  simp only[ff,Sm.pre]at h1 h2 ⊢
  by_cases hd:deep≤12
  ·simp only [hd,decide_true,if_true]at h1 h2 ⊢
   obtain⟨e2,g2⟩:=oQ (deep+1) id true (cW (deep+1) id false (out++ [⟨⟨id,kind,labels,name,proc,x,has,args,bb,e⟩,deep,bF,aR⟩]) bb) e
   have k1:(cW (deep+1) id false (out++ [⟨⟨id,kind,labels,name,proc,x,has,args,bb,e⟩,deep,bF,aR⟩]) bb).length≤200:=by
    rw[g2,zak]at h1;omega
   have k2 : ∀ i∈cW (deep+1) id false (out++ [⟨⟨id,kind,labels,name,proc,x,has,args,bb,e⟩,deep,bF,aR⟩]) bb,i.deep≤12:=fun i m=>h2 i (by rw[g2];exact zbb _ m)
   rw[vI (deep+1) id true _ e h1 h2,vI (deep+1) id false _ bb k1 k2]
   simp
  ·simp only [hd,decide_false,zaa,if_false]at h1 h2
   exact absurd (h2 _ (zbs _ (zbK.2 rfl))) (by simpa using hd)
theorem vI (deep bF:Int) (aR:Bool) (out:List It) : ∀ l:List Sm,(cW deep bF aR out l).length≤200→(∀ i∈cW deep bF aR out l,i.deep≤12)→(cW deep bF aR out l).map It.s=out.map It.s++Sm.du l
 | [],h1,h2=>by simp[cW,Sm.du]
 | s::l,h1,h2=>by
  simp only[cW,Sm.du]at h1 h2 ⊢
  by_cases hc:(out.length:Int)≤200
  ·simp only [hc,decide_true,if_true]at h1 h2 ⊢
   obtain⟨e2,g2⟩:=oQ deep bF aR (ff deep bF aR out s) l
   have k1:(ff deep bF aR out s).length≤200:=by rw[g2,zak]at h1;omega
   have k2 : ∀ i∈ff deep bF aR out s,i.deep≤12:=fun i m=>h2 i (by rw[g2];exact zbb _ m)
   rw[vI deep bF aR _ l h1 h2,Sl deep bF aR out s k1 k2]
   simp
  ·simp only [hc,decide_false,zaa,if_false]at h1
   omega
end
theorem Jh : ∀ (l:List Pc) (out:List It),(allM out l).length≤200→(∀ i∈allM out l,i.deep≤12)→(∀ f∈l,f.flat.map It.s=Sm.du f.body)∧(allM out l).map It.s=out.map It.s++(l.map fun f=>Sm.du f.body).flatten
 | [],out,h1,h2=>⟨fun f m=>(by cases m),by simp[allM]⟩
 | f::l,out,h1,h2=>by
  simp only[allM]at h1 h2 ⊢
  by_cases hc:(((out++f.flat).length:Nat):Int) > 200
  ·simp only[hc,decide_true,if_true]at h1;omega
  ·simp only [hc,decide_false,zaa,if_false]at h1 h2 ⊢
   obtain⟨k1,k2⟩:=Jh l (out++f.flat) h1 h2
   have rN : ∀ (l:List Pc) (out:List It),∃ e,allM out l=out++e:=by
    intro l
    induction l with
    |nil=>intro out;exact⟨[],by simp[allM]⟩
    |cons g l ih=>
     intro out
     simp only[allM]
     split
     ·exact⟨_,rfl⟩
     ·obtain⟨e,h⟩:=ih (out++g.flat);exact⟨g.flat++e,by rw[h];simp⟩
   obtain⟨e,he⟩:=rN l (out++f.flat)
   have k3:f.flat.map It.s=Sm.du f.body:=by
    have:=vI 1 0 false [] f.body (by
     have:f.flat.length≤200:=by simp only[zak]at hc;omega
     exact this) (fun i m=>h2 i (by rw[he];exact zbb _ (zbs _ m)))
    simpa[Pc.flat]using this
   refine⟨fun g m=>?_, ?_⟩
   ·rcases zaw.1 m with rfl | m
    ·exact k3
    ·exact k1 g m
   ·rw[k2];simp[k3]
theorem vJ : ∀ (l:List It) (n:Nat),It.cJ n l=true→(∀ i∈l,i.deep≤12)∧∀ (j:Nat) (i:It),l[j]? = some i→i.s.id=((n+j+1:Nat):Int)
 | [],n,h=>⟨fun i m=>(by cases m),fun j i h=>by simp at h⟩
 | a::l,n,h=>by
  simp only[It.cJ]at h
  split at h
  ·cases h
  ·rename_i c
   simp only[zay,not_or,bne_iff_ne,ne_eq,Decidable.not_not,decide_eq_true_eq,Int.not_lt,gt_iff_lt]at c
   obtain⟨k1,k2⟩:=vJ l (n+1) h
   refine⟨fun i m=>?_,fun j i hj=>?_⟩
   ·rcases zaw.1 m with rfl | m
    ·exact c.1.2
    ·exact k1 i m
   ·cases j with
    |zero=>simp at hj;subst hj;rw[c.1.1]
    |succ j=>simp at hj;rw[k2 j i hj];congr 1;omega
theorem tZ {p:Pg} (h:p.may=true):p.all.length≤200∧It.cJ 0 p.all=true:=by
 unfold Pg.may at h
 split at h
 ·cases h
 ·split at h
  ·cases h
  ·split at h
   ·cases h
   ·rename_i c
    exact⟨by simp only[decide_eq_true_eq,Int.not_lt,gt_iff_lt]at c;omega,h⟩
theorem oR {p:Pg} (h:p.may=true):(∀ f∈p.procs,f.flat.map It.s=Sm.du f.body)∧p.all.map It.s=p.pre:=by
 obtain⟨h1,h2⟩:=tZ h
 have:=Jh p.procs [] h1 (vJ _ 0 h2).1
 simpa[Pg.pre,Pg.all]using this
theorem acA {p:Pg} (h:p.may=true) {i:Nat} {v:Sm} (hv:p.pre[i]? = some v):v.id=((i+1:Nat):Int):=by
 rw[← (oR h).2,zat,zaz]at hv
 obtain⟨it,h1,rfl⟩:=hv
 have:=(vJ _ 0 (tZ h).2).2 i it h1
 rw[this];congr 1;omega
set_option maxRecDepth 8000
open Go.Proofs
structure Pg.iK (p:Pg):Prop where
 Ph:p.HC
 sz:p.size≤900000
mutual
theorem acB : ∀ s:Sm,s.tP→s.size<1000000→∀ v∈s.pre,v.mV∧v.jy
 |⟨id,kind,labels,name,proc,x,has,args,bb,aR⟩,h,hs,v,m=>by
  simp only[Sm.tP]at h
  simp only[Sm.size]at hs
  simp only[Sm.pre,zaw,zaB]at m
  rcases m with rfl|m|m
  ·exact⟨⟨h.1.xt,fun a ha=>(h.1.arg a ha).2.1,by dsimp only;omega⟩,h.1⟩
  ·exact Bg bb h.2.1 (by omega) v m
  ·exact Bg aR h.2.2 (by omega) v m
theorem Bg : ∀ l:List Sm,Sm.kG l→Sm.aQ l<1000000→∀ v∈Sm.du l,v.mV∧v.jy
 | [],h,hs,v,m=>by simp[Sm.du]at m
 |s::l,h,hs,v,m=>by
  simp only[Sm.kG]at h
  simp only[Sm.aQ]at hs
  simp only[Sm.du,zaB]at m
  rcases m with m|m
  ·exact acB s h.1 (by omega) v m
  ·exact Bg l h.2 (by omega) v m
end
theorem Pg.iK.said {p:Pg} (h:p.iK) {f:Pc} (hf:f∈p.procs) : ∀ v∈Sm.du f.body,v.mV:=fun v m=>by
 have h1:=Pc.bX hf
 have h2:=h.sz
 simp only[Pg.size]at h2
 simp only[Pc.size]at h1
 exact(Bg f.body (h.Ph.body f hf) (by omega) v m).1
theorem Pg.iK.small {p:Pg} (h:p.iK) {f:Pc} (hf:f∈p.procs):f.Small p:=by
 have h1:=Pc.bX hf
 have h2:=h.sz
 simp only[Pg.size]at h2
 simp only[Pc.size]at h1
 exact⟨by omega,by omega,by omega⟩
theorem Pg.iK.procs {p:Pg} (h:p.iK):p.procs.length≤900000∧Pc.aQ p.procs≤900000∧p.globals.length≤900000:=by
 have h2:=h.sz
 have h3:=Pc.cG p.procs
 simp only[Pg.size]at h2
 omega
def Pg.pn (p:Pg):List aB:=p.procs.map (·.name)
def tc (p:Pg) (f:Pc) (procs:List aB):List Sm→Option Sm
 | []=>none
 |v::l=>if v.known p f procs then tc p f procs l else some v
def pP (p:Pg) (procs:List aB):List Pc→Int×Int
 | []=>(0,0)
 |f::l=>if eo (p.globals++f.own)then(5,0)else match tc p f procs (Sm.du f.body)with|some v=>(5,v.id)|none=>pP p procs l
def Pg.pQ (p:Pg):Bool:=match p.find lA with|none=>true|some m=>decide ((m.params.length:Int) > 0)
def Pg.scope (p:Pg):Int×Int:=
 if p.may then if eo p.globals ||(eo p.pn ||p.pQ)then(5,0)else pP p p.pn p.procs else(1,0)
theorem Wh (p:Pg) (hl:p.globals.length<1000000) (n:aB):aC Tryz.prog 63 ([.str n]++ [.ptr 0 0]) ⟨[bQ p],[]⟩ (.bool (dq p.globals n)) ⟨[bQ p],[]⟩:=by
 show aC Tryz.prog 63 [.str n, .ptr 0 0] _ _ _
 have gS:=jl (l:=p.globals) (by omega) n
 refine aC.go Bu.h rfl fun B Q hB hQ=>?_
 have⟨hC,hE,hF,hS⟩:=bt
 repeat' (first
 |simp only[go_sem,hC,hE,hF,hS]
 |(with_reducible refine CU (gS _ _) ?_)
 |(with_reducible refine ay hQ ?_;exact aK))
theorem afr (n m:Nat) (p:Pg):D.ic n m (iA p)=iA p:=iF n m _ (yu p)
attribute [go_sem] afr
theorem ZH {p:Pg} {f:Pc} {procs:List aB} {v:Sm} (hs:f.Small p) (tE:procs.length<1000000) (hv:v.mV) (g:Tag) (s:St):aC Tryz.prog 66 [.agg (bQ p), .agg (cf f), .slice g 1 (procs.map encStr), .agg (bn v)] s (.bool (v.known p f procs)) s:=
 dG.zT (.cons (Wk.refl _) (.cons (Wk.refl _) (.cons (Wk.shared g 1 _) (mC.refl _)))) (ZG hs tE hv s)
theorem uJ {p:Pg} (h:p.iK) (s:St):aC Tryz.prog 23 [.agg (bQ p)] s (.agg [.int .i64 p.scope.1, .int .i64 p.scope.2]) s:=by
 refine aC.pure ?_ (by simp[D.bP,D.ok,fH]) rfl s
 have hm:=fun s=>R1 h.Ph s
 simp only[Fa]at hm
 obtain⟨n7,nh,pz⟩:=h.procs
 have dK:=fun s=>DL (p:=p) (by omega) s
 have mA:=fun s=>Cr (l:=p.globals) (by omega) .shared s
 have hpn:p.pn.length=p.procs.length:=by simp[Pg.pn]
 have uq:=fun g s=>Cr (l:=p.pn) (by omega) g s
 have hix:=fun g s=>(LM (l:=p.pn) (by omega) lA s).FX (Wk.shared g 1 (p.pn.map encStr))
 have Cs:=fun g s=>(show aC Tryz.prog 58 [.slice g 1 (p.pn.map encStr), .str [109,97,105,110]] s (.int .i64 (n5 lA 0 p.pn)) s from hix g s)
 generalize hR:p.scope=R
 simp only[Pg.scope]at hR
 unfold S0
 rcases zad p.may with hb|hb
 case inr=>
  simp only[hb]at hm
  simp only[hb,zaa,if_false]at hR
  subst hR
  refine aC.go vu.h rfl fun B Q hB hQ=>?_
  have⟨hC,hE,hF,hS⟩:=bt
  repeat' (first
 |simp only[go_sem,hC,hE,hF,hS]
 |(with_reducible refine CU (hm _) ?_)
 |(with_reducible refine ay hQ ?_;exact aK))
 simp only[hb]at hm
 simp only[hb,if_true]at hR
 refine aC.go vu.h rfl fun B Q hB hQ=>?_
 have⟨hC,hE,hF,hS⟩:=bt
 repeat' (first
 |simp only[go_sem,hC,hE,hF,hS]
 |(with_reducible refine CU (hm _) ?_)
 |(with_reducible refine ay hQ ?_;exact aK))
 refine aV.gY 3 1 rfl ?_
 simp only[go_sem,hC,hE,hF,hS]
 refine b8 2 1 (aV.ind (ι:=List Pc×Nat×List aB×Nat) (fun i=>p.procs.drop i.2.1=i.1∧i.2.2.1++i.1.map (·.name)=p.pn∧i.2.2.2=i.2.2.1.length) (fun i=>i.1.length)
  (fun i=> [(1, .ptr 0 0),(2, .ptr 1 0),(3, .slice (.tok 0) 1 (i.2.2.1.map encStr)),(18, .slice .shared 5 (p.procs.map cf)),(19, .int .i64 (p.procs.length:Int)),(20, .int .i64 (i.2.1:Int))]) (fun i=>⟨[bQ p,[.int .i64 0, .int .i64 0]],[some i.2.2.2]⟩) ?_ (p.procs,0,[],0) ⟨rfl,rfl,rfl⟩)
 rintro⟨rest,k,out,n⟩ ⟨h1,h2,h3⟩ IH
 dsimp only at h1 h2 h3
 subst h3
 have hlo:out.length+rest.length≤900000:=by
  have:=congrArg List.length h2
  simp only[zak,zaC]at this
  omega
 cases rest with
 |cons a rest=>
  obtain⟨hE,g2,hC,g4⟩:=drop_cons h1
  have bm:k<4611686018427387904:=by omega
  have hF:(out.length+1)*17≤bh:=by unfold bh;omega
  repeat' (first
 |simp only[go_sem,hC,hE,hF,hS]
 |(with_reducible refine ay hQ ?_;exact aK))
  refine b9 2 1 ?_ ?_ (IH (rest,k+1,out++ [a.name],out.length+1) ⟨g2,by rw[← h2];simp,by simp⟩ (zac _))
  ·(simp only[go_sem,hC,hE,hF,hS,az bm,zag,zaf,zah,encStr];try exact aT)
  ·(simp only[go_sem,hC,hE,hF,hS,az bm,zag,zaf,zah,encStr];try exact aT)
 | nil=>
  have hC:=drop_nil h1
  simp only[zah,zaJ]at h2
  subst h2
  rcases zad (eo p.globals)with b1|b1
  ·simp only [b1,za6,if_true]at hR
   subst hR
   repeat' (first
 |simp only[go_sem,hC,hE,hF,hS,b1]
 |(with_reducible refine CU (Cs _ _) ?_)
 |(with_reducible refine CU (mA _) ?_)
 |(with_reducible refine CU (uq _ _) ?_)
 | (with_reducible refine ay hQ ?_;exact aK))
  rcases zad (eo p.pn)with b2|b2
  ·simp only [b1,b2,za6,zbt,if_true]at hR
   subst hR
   repeat' (first
 |simp only[go_sem,hC,hE,hF,hS,b1,b2]
 |(with_reducible refine CU (Cs _ _) ?_)
 |(with_reducible refine CU (mA _) ?_)
 |(with_reducible refine CU (uq _ _) ?_)
 | (with_reducible refine ay hQ ?_;exact aK))
  rcases Jg lA p.procs 0 with ⟨e1,e2⟩|⟨m,j,e1,e2,e3⟩
  ·have b3:p.pQ=true:=by unfold Pg.pQ Pg.find;rw [e1]
   have hi:n5 lA 0 p.pn = -1:=e2
   simp only[b1,b2,b3,zbt,if_true]at hR
   subst hR
   simp only[hi]at Cs
   have d1:decide ((-1:Int)<0)=true:=by decide
   repeat' (first
 |simp only[go_sem,hC,hE,hF,hS,b1,b2,d1]
 |(with_reducible refine CU (Cs _ _) ?_)
 |(with_reducible refine CU (mA _) ?_)
 |(with_reducible refine CU (uq _ _) ?_)
 | (with_reducible refine ay hQ ?_;exact aK))
  have hi:n5 lA 0 p.pn=((j:Nat):Int):=by rw[show p.pn=p.procs.map (·.name)from rfl];simpa using e3
  simp only[hi]at Cs
  have d1:decide (((j:Nat):Int)<0)=false:=by simp
  have hj:j<p.procs.length:=(zai.1 e2).1
  have b3:p.pQ=decide ((m.params.length:Int) > 0):=by unfold Pg.pQ Pg.find;rw[e1]
  rw[b3]at hR
  rcases zad (decide ((m.params.length:Int) > 0))with b4|b4
  ·simp only [b1,b2,b4,zbt,if_true]at hR
   subst hR
   repeat' (first
 |simp only[go_sem,hC,hE,hF,hS,b1,b2,d1,e2,b4]
 |(with_reducible refine CU (Cs _ _) ?_)
 |(with_reducible refine CU (mA _) ?_)
 |(with_reducible refine CU (uq _ _) ?_)
 |(with_reducible refine ay hQ ?_;exact aK))
  simp only[b1,b2,b4,zbI,zaa,if_false]at hR
  repeat' (first
 |simp only[go_sem,hC,hE,hF,hS,b1,b2,d1,e2,b4]
 |(with_reducible refine CU (Cs _ _) ?_)
 |(with_reducible refine CU (mA _) ?_)
 |(with_reducible refine CU (uq _ _) ?_)
 |(with_reducible refine CU (dK _) ?_)
 | (with_reducible refine ay hQ ?_;exact aK))
  refine b8 2 1 (aV.ind (ι:=List Pc×Nat) (fun i=>p.procs.drop i.2=i.1∧pP p p.pn i.1=R) (fun i=>i.1.length)
   (fun i=> [(1, .ptr 0 0),(2, .ptr 1 0),(3, .slice (.tok 0) 1 (p.pn.map encStr)),(7, .dJ (iA p) 0),(57, .slice .shared 5 (p.procs.map cf)),(58, .int .i64 (p.procs.length:Int)),(59, .int .i64 (i.2:Int))]) (fun i=>⟨[bQ p,[.int .i64 0, .int .i64 0]],[some p.pn.length]⟩) ?_ (p.procs,0) ⟨rfl,hR⟩)
  clear IH h1 hC hR
  rintro⟨rest,k⟩ ⟨h1,hR⟩ IH
  dsimp only at h1 hR
  cases rest with
  |nil=>
   have hC:=drop_nil h1
   simp only[pP]at hR
   subst hR
   repeat' (first
 |simp only[go_sem,hC,hE,hF,hS]
 | (with_reducible refine ay hQ ?_;exact aK))
  | cons f rest=>
   obtain⟨hE,g2,hC,g4⟩:=drop_cons h1
   have bm:k<4611686018427387904:=by omega
   have mS:=zae hE
   have uK:=h.small mS
   have Ji:=fun s=>afq (f:=f) uK.par uK.vars s
   have ow:f.own.length<4611686018427387904:=by have h1:=uK.par;have h2:=uK.vars;unfold Pc.own Pc.oP;simp;omega
   have xK:=fun s=>Cr (l:=f.own) ow .shared s
   have tF:=fun {s:St} {o:Nat} (ho:s.aw[o]? = some (bQ p))=>xI (l:=f.own) ow (f:=63) (row:=bQ p) (b:=dq p.globals) (fH p) (by with_unfolding_all rfl) (fun x _=>Wh p uK.E6 x) ho
   have Wi:=fun {s:St} {o:Nat} (ho:s.aw[o]? = some (bQ p))=>(show aC Tryz.prog 62 [.slice .shared 1 (f.own.map encStr), .gK 63 [.ptr o 0]] s (.bool (f.own.any (dq p.globals))) s from tF ho)
   simp only[pP,Sj,b1,zbd]at hR
   rcases zad (eo f.own)with c1|c1
   ·simp only [c1,za6,if_true]at hR
    subst hR
    repeat' (first
 |simp only[go_sem,hC,hE,hF,hS,c1]
 |(with_reducible refine CU (Ji _) ?_)
 |(with_reducible refine CU (xK _) ?_)
 |(with_reducible refine CU (Wi (by with_unfolding_all rfl)) ?_)
 | (with_reducible refine ay hQ ?_;exact aK))
   rcases zad (f.own.any (dq p.globals))with c2|c2
   ·simp only [c1,c2,zbd,if_true]at hR
    subst hR
    repeat' (first
 |simp only[go_sem,hC,hE,hF,hS,c1,c2]
 |(with_reducible refine CU (Ji _) ?_)
 |(with_reducible refine CU (xK _) ?_)
 |(with_reducible refine CU (Wi (by with_unfolding_all rfl)) ?_)
 | (with_reducible refine ay hQ ?_;exact aK))
   simp only[c1,c2,zbz,zaa,if_false]at hR
   obtain⟨it,oO,DX⟩:=VP hE (by omega)
   rw[← oO]at hR
   have Fc:it.length≤900000:=by
    have e:=congrArg List.length oO
    have e2:=(qn p).2 k f hE
    obtain⟨a,b,e',_,_,e3,e4⟩:=e2
    have e5:=qo p
    have e6:=congrArg List.length e3
    rw[e4]at e5
    simp only[zaC,zak]at e e5 e6
    omega
   repeat' (first
 |simp only[go_sem,hC,hE,hF,hS,c1,c2]
 |(with_reducible refine CU (Ji _) ?_)
 |(with_reducible refine CU (xK _) ?_)
 |(with_reducible refine CU (Wi (by with_unfolding_all rfl)) ?_)
 |(with_reducible refine CU (DX _) ?_)
 | (with_reducible refine ay hQ ?_;exact aK))
   obtain⟨q,hq⟩ : ∃ q,tc p f p.pn (it.map Im.s)=q:=⟨_,rfl⟩
   rw[hq]at hR
   refine b8 3 1 (aV.ind (ι:=List Im×Nat) (fun i=>it.drop i.2=i.1∧tc p f p.pn (i.1.map Im.s)=q) (fun i=>i.1.length)
    (fun i=> [(1, .ptr 0 0),(2, .ptr 1 0),(3, .slice (.tok 0) 1 (p.pn.map encStr)),(7, .dJ (iA p) 0),(9, .ptr 2 0),(57, .slice .shared 5 (p.procs.map cf)),(58, .int .i64 (p.procs.length:Int)),(59, .int .i64 (k:Int)),(76, .slice .shared 17 (it.map eO)),(77, .int .i64 (it.length:Int)),(78, .int .i64 (i.2:Int))]) (fun i=>⟨[bQ p,[.int .i64 0, .int .i64 0],cf f],[some p.pn.length]⟩) ?_ (it,0) ⟨rfl,hq⟩)
   rintro⟨jW,n⟩ ⟨j1,j2⟩ mE
   dsimp only at j1 j2
   have yU:=hC
   cases jW with
   |nil=>
    have Wl:=drop_nil j1
    simp only[zah,tc]at j2
    subst j2
    simp only at hR
    repeat' (first
 |simp only[go_sem,hC,hE,hF,hS,Wl]
 | (with_reducible refine ay hQ ?_;exact aK))
    refine b9 2 1 ?_ ?_ (IH (rest,k+1) ⟨g2,hR⟩ (zac _))
    ·(simp only[go_sem,hC,hE,hF,hS,az bm];try exact aT)
    ·(simp only[go_sem,hC,hE,hF,hS,az bm];try exact aT)
   | cons i jW=>
    obtain⟨ez,mF,gX,DW⟩:=drop_cons j1
    have eS:n<4611686018427387904:=by omega
    have vK:i.s∈Sm.du f.body:=by rw[← oO];exact zaT (zae ez)
    have Yi:=ZH (v:=i.s) uK (procs:=p.pn) (by omega) (h.said mS _ vK)
    simp only[zaf,tc]at j2
    rcases zad (i.s.known p f p.pn)with c3|c3
    ·simp only [c3,if_true]at j2
     repeat' (first
 |simp only[go_sem,hC,hE,hF,hS,gX,ez,c3]
 |(with_reducible refine CU (Yi _ _) ?_)
 | (with_reducible refine ay hQ ?_;exact aK))
     refine b9 3 1 ?_ ?_ (mE (jW,n+1) ⟨mF,j2⟩ (zac _))
     ·(simp only[go_sem,hC,hE,hF,hS,az eS];try exact aT)
     ·(simp only[go_sem,hC,hE,hF,hS,az eS];try exact aT)
    ·simp only [c3,zaa,if_false]at j2
     subst j2
     simp only at hR
     subst hR
     repeat' (first
 |simp only[go_sem,hC,hE,hF,hS,gX,ez,c3]
 |(with_reducible refine CU (Yi _ _) ?_)
 |(with_reducible refine ay hQ ?_;exact aK))
end Go.Abs
namespace Go.Abs
mutual
def Ex.LR:Ex→Prop
 |⟨_,n,_,kids⟩=>n≤9223372036854775807∧Ex.Ct kids
def Ex.Ct:List Ex→Prop
 | []=>True
 |x::l=>x.LR∧Ex.Ct l
end
mutual
def Sm.LR:Sm→Prop
 |⟨_,_,_,_,_,x,_,args,bb,aR⟩=>x.LR∧(∀ a∈args,a.x.LR)∧Sm.Ct bb∧Sm.Ct aR
def Sm.Ct:List Sm→Prop
 | []=>True
 |s::l=>s.LR∧Sm.Ct l
end
def Pg.LR (p:Pg):Prop:=∀ f∈p.procs,Sm.Ct f.body
theorem Gd {f:Pc} : ∀ {l:List Pc} {n:Nat},Pc.eL n l=true→f∈l→(isName f.name=true∧cr f.vars=true∧cr f.fin=true∧Pm.cJ f.params=true)∧∃ n,(Sm.fW 1 n f.body).1=true
 |g::l,n,h,m=>by
  simp only[Pc.eL]at h
  split at h
  ·cases h
  rename_i c1
  split at h
  ·cases h
  rename_i c2
  split at h
  ·cases h
  rename_i c3
  simp only[zay,zaG,not_or,za4]at c1 c2 c3
  rcases zaw.1 m with rfl|m
  ·exact⟨⟨c1.1.1.2,c1.1.2,c1.2,c2⟩,n,c3⟩
  ·exact Gd h m
mutual
theorem Pj : ∀ (s:Sm) (nest:Int) (n:Nat),(Sm.pG nest n s).1=true→s.size<4611686018427387000→s.tP
 |⟨id,kind,labels,name,proc,x,has,args,bb,aR⟩,nest,n,hm,hs=>by
  obtain⟨_,_,h1,h2,h3,_⟩:=Ga hm
  rw[I9]
  rw[(sN h2).2]at h2
  rw[(sN h3).2]at h3
  refine⟨Jc h1 hs,tQ bb _ _ h2 ?_,tQ aR _ _ h3 ?_⟩<;>simp only[Sm.size]at hs<;>omega
theorem tQ : ∀ (l:List Sm) (nest:Int) (n:Nat),(Sm.eL nest n l).1=true→Sm.aQ l<4611686018427387000→Sm.kG l
 | [],_,_,_,_=>by simp only[Sm.kG]
 |s::l,nest,n,hm,hs=>by
  simp only[Sm.eL]at hm
  simp only[Sm.aQ]at hs
  split at hm
  ·cases hm
  rename_i hc
  simp only[zaG,za4]at hc
  exact⟨Pj s nest n hc (by omega),tQ l nest _ hm (by omega)⟩
end
theorem vL {p:Pg} (h:p.may=true) (hs:p.size<4611686018427387000):p.HC:=by
 have hf:=V1 h hs
 rw[← Fa]at h
 unfold Pg.E9 at h
 split at h
 ·cases h
 refine⟨hf.sz,hf.E6,hf.kz,fun f m=>?_⟩
 obtain⟨_,n,e⟩:=Gd h m
 rw[(sN e).2]at e
 have:=Pc.bX m
 simp only[Pg.size]at hs
 exact tQ f.body 1 n e (by unfold Pc.size at this;omega)
mutual
theorem Pk {deep bF:Int} {aR:Bool} {out:List It} {i:It} : ∀ s:Sm,s.tP→i∈ff deep bF aR out s→i∈out∨i.s.jy
 | ⟨id,kind,labels,name,proc,x,has,args,bb,e⟩,hf,h=>by
  simp only[ff]at h
  simp only[Sm.tP]at hf
  have key:i∈out++ [(⟨⟨id,kind,labels,name,proc,x,has,args,bb,e⟩,deep,bF,aR⟩:It)]→i∈out∨i.s.jy:=by
   intro h
   rcases zaB.1 h with h|h
   ·exact .inl h
   ·simp at h;subst h;exact .inr hf.1
  split at h
  ·rcases tR e hf.2.2 h with h | h
   ·rcases tR bb hf.2.1 h with h | h
    ·exact key h
    ·exact .inr h
   ·exact .inr h
  ·exact key h
theorem tR {deep bF:Int} {aR:Bool} {out:List It} {i:It} : ∀ l:List Sm,Sm.kG l→i∈cW deep bF aR out l→i∈out∨i.s.jy
 | [],_,h=>by simp only[cW]at h;exact .inl h
 | s::l,hf,h=>by
  simp only[cW]at h
  simp only[Sm.kG]at hf
  split at h
  ·rcases tR l hf.2 h with h | h
   ·exact Pk s hf.1 h
   ·exact .inr h
  ·exact .inl h
end
theorem Ge {i:It} : ∀ (l:List Pc) (out:List It),(∀ f∈l,Sm.kG f.body)→i∈allM out l→i∈out∨i.s.jy
 | [],out,_,h=>by simp only[allM]at h;exact .inl h
 | f::l,out,hf,h=>by
  have key:i∈out++f.flat→i∈out∨i.s.jy:=by
   intro h
   rcases zaB.1 h with h|h
   ·exact .inl h
   ·rcases tR _ (hf f (zaE ..)) h with h | h
    ·simp at h
    ·exact .inr h
  simp only[allM]at h
  split at h
  ·exact key h
  ·rcases Ge l _ (fun g m=>hf g (zaA _ m)) h with h | h
   ·exact key h
   ·exact .inr h
theorem Pl {p:Pg} (h:p.HC):p.jy:=⟨h.sz,h.E6,h.kz,fun i hi=>(Ge p.procs [] h.body hi).resolve_left (by simp)⟩
set_option maxRecDepth 8000
open Go.Proofs
theorem Wm (x:It):(dX x)[1]? = some (.int .i64 x.s.kind):=nd rfl
theorem Wn (x:It):(dX x)[3]? = some (.str x.s.name):=nd rfl
theorem Wo (x:It):(dX x)[4]? = some (.str x.s.proc):=nd rfl
theorem ZI (x:It):List.take 16 (dX x)=dX x:=nd rfl
attribute [go_sem] Wm Wn Wo ZI
theorem Fe {a:List aB} (h:a≠ []) (hl:a.length≤1000000000) {z:Nat} {g:Tag} (o:List (List D)) (T:List (Option Nat)) :
 fP 1 16 (.slice .full z []) (.slice g 1 (a.map encStr)) ⟨o,T⟩=some (.slice (.tok T.length) 1 (a.map encStr),⟨o,T++ [some a.length]⟩):=by
 have:a.length*17≤bh:=by unfold bh;omega
 cases a with
 |nil=>exact absurd rfl h
 |cons x r=>simp only[zal]at this;simp[fP,this]
theorem ua {z:Nat} {g:Tag} (o:List (List D)) (T:List (Option Nat)) :
 fP 1 16 (.slice .full z []) (.slice g 1 []) ⟨o,T⟩=some (.slice .full z [],⟨o,T⟩):=by simp[fP,bh]
theorem Am {l nx:List aB} (h:l.length+nx.length≤1000000000) {g:Tag} {n0:Option Nat} (o:List (List D)) :
 fP 1 16 (.slice (.tok 1) 1 (l.map encStr)) (.slice g 1 (nx.map encStr)) ⟨o,[n0,some l.length]⟩=some (.slice (.tok 1) 1 ((l++nx).map encStr),⟨o,[n0,some (l++nx).length]⟩):=by
 have:=Ce (size:=1) (bytes:=16) (t:=1) (rows:=l.map encStr) (new:=nx.map encStr) (g:=g) (s:=⟨o,[n0,some l.length]⟩) (by simp only[zaC];unfold bh;omega) (by simp)
 rw[this]
 simp
theorem DY {size bytes:Nat} {x y d:D} {s s':St} (h:fP size bytes x y s=some (d,s')) : ∃ g z rows,d = .slice g z rows:=by
 unfold fP at h
 (repeat' (split at h))<;>first|(cases h;done)|(cases h;exact⟨_,_,_,rfl⟩)
theorem K1 {p:Pg} (h:p.iK):p.jy:=Pl h.Ph
theorem Wp {p:Pg} (h:p.iK) (s:St):aC Tryz.prog 49 [.agg (bQ p)] s (.agg [.int .i64 p.scope.1, .int .i64 p.scope.2]) s:=by
 refine aC.pure ?_ (by simp[D.bP,D.ok,fH]) rfl s
 have hm:=fun s=>afi (K1 h) s
 obtain⟨n7,nh,pz⟩:=h.procs
 have mA:=fun s=>uI (l:=p.globals) (by omega) .shared s
 have hpn:p.pn.length=p.procs.length:=by simp[Pg.pn]
 have uq:=fun g s=>uI (l:=p.pn) (by omega) g s
 have qU:=fun s=>Bf (p:=p) (by omega) lA s
 have yA:=fun s=>(show aC Tryz.prog 100 [.agg (bQ p), .str [109,97,105,110]] s (jo (p.find lA)) s from qU s)
 clear qU
 generalize hR:p.scope=R
 simp only[Pg.scope]at hR
 unfold S0
 rcases zad p.may with hb|hb
 case inr=>
  simp only[hb]at hm
  simp only[hb,zaa,if_false]at hR
  subst hR
  refine aC.go xk.h rfl fun B Q hB hQ=>?_
  have⟨hC,hE,hF,hS⟩:=bt
  repeat' (first
 |simp only[go_sem,hC,hE,hF,hS]
 |(with_reducible refine CU (hm _) ?_)
 |(with_reducible refine CU (fp _ _ _) ?_)
 |(with_reducible refine ay hQ ?_;exact aK))
 have afs:=(oR hb).1
 simp only[hb]at hm
 simp only[hb,if_true]at hR
 refine aC.go xk.h rfl fun B Q hB hQ=>?_
 have⟨hC,hE,hF,hS⟩:=bt
 repeat' (first
 |simp only[go_sem,hC,hE,hF,hS]
 |(with_reducible refine CU (hm _) ?_)
 |(with_reducible refine ay hQ ?_;exact aK))
 refine aV.gY 3 1 rfl ?_
 simp only[go_sem,hC,hE,hF,hS]
 refine b8 2 1 (aV.ind (ι:=List Pc×Nat×List aB×Nat) (fun i=>p.procs.drop i.2.1=i.1∧i.2.2.1++i.1.map (·.name)=p.pn∧i.2.2.2=i.2.2.1.length) (fun i=>i.1.length)
  (fun i=> [(1, .ptr 0 0),(2, .ptr 1 0),(3, .slice (.tok 0) 1 (i.2.2.1.map encStr)),(19, .slice .shared 5 (p.procs.map cf)),(20, .int .i64 (p.procs.length:Int)),(21, .int .i64 (i.2.1:Int))]) (fun i=>⟨[bQ p,[.int .i64 0, .int .i64 0]],[some i.2.2.2]⟩) ?_ (p.procs,0,[],0) ⟨rfl,rfl,rfl⟩)
 rintro⟨rest,k,out,n⟩ ⟨h1,h2,h3⟩ IH
 dsimp only at h1 h2 h3
 subst h3
 have hlo:out.length+rest.length≤900000:=by
  have:=congrArg List.length h2
  simp only[zak,zaC]at this
  omega
 cases rest with
 |cons a rest=>
  obtain⟨hE,g2,hC,g4⟩:=drop_cons h1
  have bm:k<4611686018427387904:=by omega
  have hF:(out.length+1)*17≤bh:=by unfold bh;omega
  repeat' (first
 |simp only[go_sem,hC,hE,hF,hS]
 |(with_reducible refine ay hQ ?_;exact aK))
  refine b9 2 1 ?_ ?_ (IH (rest,k+1,out++ [a.name],out.length+1) ⟨g2,by rw[← h2];simp,by simp⟩ (zac _))
  ·(simp only[go_sem,hC,hE,hF,hS,az bm,zag,zaf,zah,encStr];try exact aT)
  ·(simp only[go_sem,hC,hE,hF,hS,az bm,zag,zaf,zah,encStr];try exact aT)
 | nil=>
  have hC:=drop_nil h1
  simp only[zah,zaJ]at h2
  subst h2
  rcases zad (eo p.globals)with b1|b1
  ·simp only [b1,za6,if_true]at hR
   subst hR
   cases tp:p.find lA<;>simp only[tp,jo,zbH,zbv,zbu,zbl]at yA
   all_goals
    repeat' (first
 |simp only[go_sem,hC,hE,hF,hS,b1]
 |(with_reducible refine CU (yA _) ?_)
 |(with_reducible refine CU (mA _) ?_)
 |(with_reducible refine CU (uq _ _) ?_)
 |(with_reducible refine CU (fp _ _ _) ?_)
 | (with_reducible refine ay hQ ?_;exact aK))
  rcases zad (eo p.pn)with b2|b2
  ·simp only [b1,b2,za6,zbt,if_true]at hR
   subst hR
   cases tp:p.find lA<;>simp only[tp,jo,zbH,zbv,zbu,zbl]at yA
   all_goals
    repeat' (first
 |simp only[go_sem,hC,hE,hF,hS,b1,b2]
 |(with_reducible refine CU (yA _) ?_)
 |(with_reducible refine CU (mA _) ?_)
 |(with_reducible refine CU (uq _ _) ?_)
 |(with_reducible refine CU (fp _ _ _) ?_)
 | (with_reducible refine ay hQ ?_;exact aK))
  cases tp:p.find lA with
  |none=>
   simp only[tp,jo,zbH,zbu]at yA
   have b3:p.pQ=true:=by unfold Pg.pQ;rw[tp]
   simp only[b1,b2,b3,zbt,if_true]at hR
   subst hR
   repeat' (first
 |simp only[go_sem,hC,hE,hF,hS,b1,b2]
 |(with_reducible refine CU (yA _) ?_)
 |(with_reducible refine CU (mA _) ?_)
 |(with_reducible refine CU (uq _ _) ?_)
 |(with_reducible refine CU (fp _ _ _) ?_)
 | (with_reducible refine ay hQ ?_;exact aK))
  |some m=>
  simp only[tp,jo,zbv,zbl]at yA
  have b3:p.pQ=decide ((m.params.length:Int) > 0):=by unfold Pg.pQ;rw[tp]
  rw[b3]at hR
  rcases zad (decide ((m.params.length:Int) > 0))with b4|b4
  ·simp only [b1,b2,b4,zbt,if_true]at hR
   subst hR
   repeat' (first
 |simp only[go_sem,hC,hE,hF,hS,b1,b2,b4]
 |(with_reducible refine CU (yA _) ?_)
 |(with_reducible refine CU (mA _) ?_)
 |(with_reducible refine CU (uq _ _) ?_)
 |(with_reducible refine CU (fp _ _ _) ?_)
 |(with_reducible refine ay hQ ?_;exact aK))
  simp only[b1,b2,b4,zbI,zaa,if_false]at hR
  repeat' (first
 |simp only[go_sem,hC,hE,hF,hS,b1,b2,b4]
 |(with_reducible refine CU (yA _) ?_)
 |(with_reducible refine CU (mA _) ?_)
 |(with_reducible refine CU (uq _ _) ?_)
 |(with_reducible refine CU (fp _ _ _) ?_)
 | (with_reducible refine ay hQ ?_;exact aK))
  refine b8 2 1 (aV.ind (ι:=List Pc×Nat) (fun i=>p.procs.drop i.2=i.1∧pP p p.pn i.1=R) (fun i=>i.1.length)
   (fun i=> [(1, .ptr 0 0),(2, .ptr 1 0),(3, .slice (.tok 0) 1 (p.pn.map encStr)),(55, .slice .shared 5 (p.procs.map cf)),(56, .int .i64 (p.procs.length:Int)),(57, .int .i64 (i.2:Int))]) (fun i=>⟨[bQ p,[.int .i64 0, .int .i64 0]],[some p.pn.length]⟩) ?_ (p.procs,0) ⟨rfl,hR⟩)
  clear IH h1 hC hR
  rintro⟨rest,k⟩ ⟨h1,hR⟩ IH
  dsimp only at h1 hR
  cases rest with
  |nil=>
   have hC:=drop_nil h1
   simp only[pP]at hR
   subst hR
   repeat' (first
 |simp only[go_sem,hC,hE,hF,hS]
 | (with_reducible refine ay hQ ?_;exact aK))
  | cons f rest=>
   obtain⟨hE,g2,hC,g4⟩:=drop_cons h1
   have bm:k<4611686018427387904:=by omega
   have mS:=zae hE
   have uK:=h.small mS
   have hpa:=fun s=>Wg (f:=f) uK.par s
   have alv:f.oP.length<1000000:=by have h1:=uK.par;unfold Pc.oP;simpa using h1
   have hvl:=uK.vars
   have hxl:(p.globals++f.own).length<4611686018427387904:=by unfold Pc.own;simp;omega
   have Pn:=fun g s=>uI (l:=p.globals++f.own) hxl g s
   have wX:Sm.aQ f.body<4611686018427387000:=by have:=Pc.bX mS;simp only[Pc.size]at this;omega
   have iy:=fun s=>xJ (f:=f) wX s
   have oO:=afs f mS
   have Fc:f.flat.length≤201:=f.qd
   simp only[pP]at hR
   rw[← oO]at hR
   obtain⟨q,hq⟩ : ∃ q,tc p f p.pn (f.flat.map It.s)=q:=⟨_,rfl⟩
   rw[hq]at hR
   have hc4 : ∃ (dA dB dC:D) (T1 T2 T3:List (Option Nat)),(∀ s,aC Tryz.prog 101 [dC] s (.bool (eo (p.globals++f.own))) s)∧
    (∀ o,fP 1 16 (.slice .full 1 []) (.slice .shared 1 (p.globals.map encStr)) ⟨o,[some p.pn.length]⟩=some (dA,⟨o,some p.pn.length::T1⟩))∧
    (∀ o,fP 1 16 dA (.slice .shared 1 (f.oP.map encStr)) ⟨o,some p.pn.length::T1⟩=some (dB,⟨o,some p.pn.length::T2⟩))∧
    (∀ o,fP 1 16 dB (.slice .shared 1 (f.vars.map encStr)) ⟨o,some p.pn.length::T2⟩=some (dC,⟨o,some p.pn.length::T3⟩)):=by
    have An:f.own=f.oP++f.vars:=rfl
    by_cases z1:p.globals = []
    ·rw [z1]
     by_cases z2:f.oP = []
     ·rw [z2]
      by_cases z3:f.vars = []
      ·rw [z3]
       refine⟨.slice .full 1 [], .slice .full 1 [], .slice .full 1 [],[],[],[],fun s=>?_,fun o=>ua o _,fun o=>ua o _,fun o=>ua o _⟩
       have:=Pn .full s
       rw[An,z1,z2,z3]at this
       rw[An,z2,z3]
       exact this
      ·refine⟨.slice .full 1 [], .slice .full 1 [],_,[],[],_,fun s=> ?_,fun o=>ua o _,fun o=>ua o _,fun o=>Fe z3 (by omega) o _⟩
       have:=Pn (.tok 1) s
       rw[An,z1,z2]at this
       rw[An,z2]
       exact this
     ·refine⟨.slice .full 1 [],_,_,[],_,_,fun s=> ?_,fun o=>ua o _,fun o=>Fe z2 (by omega) o _,fun o=>Am (by omega) o⟩
      have:=Pn (.tok 1) s
      rw[An,z1]at this
      rw[An]
      exact this
    ·refine⟨_,_,_,_,_,_,fun s=> ?_,fun o=>Fe z1 (by omega) o _,fun o=>Am (by omega) o,fun o=>Am (by simp;omega) o⟩
     have:=Pn (.tok 1) s
     rw[An, ← zaD]at this
     rw[An, ← zaD]
     exact this
   obtain⟨dA,dB,dC,T1,T2,T3,oe,eA,eB,eC⟩:=hc4
   obtain⟨gA,zA,rA,rfl⟩:=DY (eA [])
   obtain⟨gB,zB,rB,rfl⟩:=DY (eB [])
   rcases zad (eo (p.globals++f.own))with c1|c1
   ·simp only [c1,if_true]at oe hR
    subst hR
    repeat' (first
 |simp only[go_sem,hC,hE,hF,hS,eA,eB,eC]
 |(with_reducible refine CU (hpa _) ?_)
 |(with_reducible refine CU (oe _) ?_)
 |(with_reducible refine CU (fp _ _ _) ?_)
 |(with_reducible refine CU (iy _) ?_)
 | (with_reducible refine ay hQ ?_;exact aK))
   simp only[c1,zaa,if_false]at oe hR
   repeat' (first
 |simp only[go_sem,hC,hE,hF,hS,eA,eB,eC]
 |(with_reducible refine CU (hpa _) ?_)
 |(with_reducible refine CU (oe _) ?_)
 |(with_reducible refine CU (fp _ _ _) ?_)
 |(with_reducible refine CU (iy _) ?_)
 | (with_reducible refine ay hQ ?_;exact aK))
   refine b8 3 1 (aV.ind (ι:=List It×Nat) (fun i=>f.flat.drop i.2=i.1∧tc p f p.pn (i.1.map It.s)=q) (fun i=>i.1.length)
    (fun i=> [(1, .ptr 0 0),(2, .ptr 1 0),(3, .slice (.tok 0) 1 (p.pn.map encStr)),(9, .ptr 2 0),(55, .slice .shared 5 (p.procs.map cf)),(56, .int .i64 (p.procs.length:Int)),(57, .int .i64 (k:Int)),(74, .slice .shared 16 (f.flat.map dX)),(75, .int .i64 (f.flat.length:Int)),(76, .int .i64 (i.2:Int))]) (fun i=>⟨[bQ p,[.int .i64 0, .int .i64 0],cf f],[some p.pn.length]⟩) ?_ (f.flat,0) ⟨rfl,hq⟩)
   rintro⟨jW,n⟩ ⟨j1,j2⟩ mE
   dsimp only at j1 j2
   cases jW with
   |nil=>
    have Wl:=drop_nil j1
    simp only[zah,tc]at j2
    subst j2
    simp only at hR
    repeat' (first
 |simp only[go_sem,hC,hE,hF,hS,Wl]
 | (with_reducible refine ay hQ ?_;exact aK))
    refine b9 2 1 ?_ ?_ (IH (rest,k+1) ⟨g2,hR⟩ (zac _))
    ·(simp only[go_sem,hC,hE,hF,hS,az bm];try exact aT)
    ·(simp only[go_sem,hC,hE,hF,hS,az bm];try exact aT)
   |cons i jW=>
    obtain⟨ez,mF,gX,DW⟩:=drop_cons j1
    have eS:n<4611686018427387904:=by omega
    have vK:i.s∈Sm.du f.body:=by rw[← oO];exact zaT (zae ez)
    have BF:=h.said mS _ vK
    have F3:=fun s=>BO BF s
    have Ao:=yz _ BF
    have LS:=fun nm s=>K0 (p:=p) (f:=f) (by have:=uK.par;omega) (by have:=uK.vars;omega) (by omega) nm s
    have jS:=wF (l:=p.pn) (by omega) i.s.proc
    simp only[zaf,tc]at j2
    repeat' (first
 |simp only[go_sem,hC,hE,hF,hS,gX,ez]
 |(with_reducible refine CU (F3 _) ?_)
 | (with_reducible refine ay hQ ?_;exact aK))
    obtain⟨q2,Da⟩ : ∃ q2,sb p f i.s.said=q2:=⟨_,rfl⟩
    have Yi:i.s.known p f p.pn=(q2 && (i.s.kind != 4 ||(i.s.proc != lA && dq p.pn i.s.proc))):=by rw[← Da,Al];rfl
    rw[Yi]at j2
    refine b8 4 1 (aV.ind (ι:=List aB×Nat) (fun j=>i.s.said.drop j.2=j.1∧sb p f j.1=q2) (fun j=>j.1.length)
     (fun j=> [(1, .ptr 0 0),(2, .ptr 1 0),(3, .slice (.tok 0) 1 (p.pn.map encStr)),(9, .ptr 2 0),(11, .ptr 3 0),(55, .slice .shared 5 (p.procs.map cf)),(56, .int .i64 (p.procs.length:Int)),(57, .int .i64 (k:Int)),(74, .slice .shared 16 (f.flat.map dX)),(75, .int .i64 (f.flat.length:Int)),(76, .int .i64 (n:Int)),(82, .slice .shared 1 (i.s.said.map encStr)),(83, .int .i64 (i.s.said.length:Int)),(84, .int .i64 (j.2:Int))]) (fun j=>⟨[bQ p,[.int .i64 0, .int .i64 0],cf f,dX i],[some p.pn.length]⟩) ?_ (i.s.said,0) ⟨rfl,Da⟩)
    rintro⟨jC,m2⟩ ⟨l1,l2⟩ sK
    dsimp only at l1 l2
    cases jC with
    | cons a jC=>
     obtain⟨Ap,Jj,Gf,lg4⟩:=drop_cons l1
     have zb:m2<4611686018427387904:=by omega
     simp only[sb]at l2
     rcases zad (f.jZ p a==0)with d1|d1
     ·simp only [d1,if_true]at l2
      subst l2
      simp only[zaO,zaa,if_false]at j2
      subst j2
      simp only at hR
      subst hR
      repeat' (first
 |simp only[go_sem,hC,hE,hF,hS,Gf,Ap,d1]
 |(with_reducible refine CU (LS _ _) ?_)
 |(with_reducible refine CU (fp _ _ _) ?_)
 |(with_reducible refine ay hQ ?_;exact aK))
     ·simp only [d1,zaa,if_false]at l2
      repeat' (first
 |simp only[go_sem,hC,hE,hF,hS,Gf,Ap,d1]
 |(with_reducible refine CU (LS _ _) ?_)
 |(with_reducible refine CU (fp _ _ _) ?_)
 | (with_reducible refine ay hQ ?_;exact aK))
      refine b9 4 1 ?_ ?_ (sK (jC,m2+1) ⟨Jj,l2⟩ (zac _))
      ·(simp only[go_sem,hC,hE,hF,hS,az zb];try exact aT)
      ·(simp only[go_sem,hC,hE,hF,hS,az zb];try exact aT)
    | nil=>
     have Po:=drop_nil l1
     simp only[sb]at l2
     subst l2
     simp only[zbc]at j2
     unfold lA at j2
     have b5:(i.s.kind==4) = !(i.s.kind != 4):=by simp only[bne,zbB]
     have b6:(i.s.proc == [109,97,105,110]) = !(i.s.proc != [109,97,105,110]):=by simp only[bne,zbB]
     rcases zad (i.s.kind != 4)with d1|d1
     ·simp only [d1,za6,if_true]at j2
      simp only[d1,zan]at b5
      repeat' (first
 |simp only[go_sem,hC,hE,hF,hS,Po,b5,d1]
 |(with_reducible refine CU (jS _ _) ?_)
 |(with_reducible refine CU (fp _ _ _) ?_)
 |(with_reducible refine ay hQ ?_;exact aK))
      refine b9 3 1 ?_ ?_ (mE (jW,n+1) ⟨mF,j2⟩ (zac _))
      ·(simp only[go_sem,hC,hE,hF,hS,az eS];try exact aT)
      ·(simp only[go_sem,hC,hE,hF,hS,az eS];try exact aT)
     ·simp only [d1,zbd]at j2
      simp only[d1,zao]at b5
      rcases zad (i.s.proc != [109,97,105,110])with d2|d2
      ·simp only [d2,zbc]at j2
       simp only[d2,zan]at b6
       rcases zad (dq p.pn i.s.proc)with d3|d3
       ·simp only [d3,if_true]at j2
        repeat' (first
 |simp only[go_sem,hC,hE,hF,hS,Po,b5,d1,b6,d2,d3]
 |(with_reducible refine CU (jS _ _) ?_)
 |(with_reducible refine CU (fp _ _ _) ?_)
 |(with_reducible refine ay hQ ?_;exact aK))
        refine b9 3 1 ?_ ?_ (mE (jW,n+1) ⟨mF,j2⟩ (zac _))
        ·(simp only[go_sem,hC,hE,hF,hS,az eS];try exact aT)
        ·(simp only[go_sem,hC,hE,hF,hS,az eS];try exact aT)
       ·simp only [d3,zaa,if_false]at j2
        subst j2
        simp only at hR
        subst hR
        repeat' (first
 |simp only[go_sem,hC,hE,hF,hS,Po,b5,d1,b6,d2,d3]
 |(with_reducible refine CU (jS _ _) ?_)
 |(with_reducible refine CU (fp _ _ _) ?_)
 |(with_reducible refine ay hQ ?_;exact aK))
      ·simp only [d2,zaO,zaa,if_false]at j2
       simp only[d2,zao]at b6
       subst j2
       simp only at hR
       subst hR
       repeat' (first
 |simp only[go_sem,hC,hE,hF,hS,Po,b5,d1,b6,d2]
 |(with_reducible refine CU (jS _ _) ?_)
 |(with_reducible refine CU (fp _ _ _) ?_)
 |(with_reducible refine ay hQ ?_;exact aK))
end Go.Abs
namespace Go.Abs
set_option maxRecDepth 8000
open Go.Proofs
def vM:List Pm→List Ar→Bool
 | [],_=>true
 |_,[]=>true
 |a::l,b::m=>if a.ref==b.ref then vM l m else false
def Bh (l:List Pm) (m:List Ar):Bool:=if(l.length:Int)==(m.length:Int)then vM l m else false
def Sm.l7 (p:Pg) (v:Sm):Bool:=v.kind==4 && match p.find v.proc with|none=>false|some q=>Bh q.params v.args
theorem acE {l:List Pm} {m:List Ar} (hl:l.length<1000000000) (hm:m.length<1000000000) (s:St):aC Tryz.prog 121 [.slice .shared 2 (l.map eH), .slice .shared 6 (m.map dM)] s (.bool (Bh l m)) s:=by
 refine aC.pure ?_ (by simp[D.bP,D.ok,Tag.ok,OY,Di]) rfl s
 generalize h:Bh l m=q
 simp only[Bh]at h
 unfold S0
 have b0:((l.length:Int) != (m.length:Int)) = !((l.length:Int)==(m.length:Int)):=rfl
 rcases zad ((l.length:Int)==(m.length:Int))with b1|b1
 case inr=>
  rw[b1]at b0
  simp only[b1,zaa,if_false]at h
  subst h
  refine aC.go xw.h rfl fun B Q hB hQ=>?_
  have⟨hC,hE,hF,hS⟩:=bt
  repeat' (first
 |simp only[go_sem,hC,hE,hF,hS,b0,zao]
 |(with_reducible refine ay hQ ?_;exact aK))
 rw[b1]at b0
 simp only[b1,if_true]at h
 have LU:l.length=m.length:=by have:=eq_of_beq b1;omega
 refine aC.go xw.h rfl fun B Q hB hQ=>?_
 have⟨hC,hE,hF,hS⟩:=bt
 repeat' (first
 |simp only[go_sem,hC,hE,hF,hS,b0,zan]
 |(with_reducible refine ay hQ ?_;exact aK))
 refine b8 0 0 (aV.ind (ι:=List Pm×List Ar×Nat) (fun i=>l.drop i.2.2=i.1∧m.drop i.2.2=i.2.1∧vM i.1 i.2.1=q) (fun i=>i.1.length)
  (fun i=> [(1, .slice .shared 6 (m.map dM)),(12, .slice .shared 2 (l.map eH)),(13, .int .i64 (l.length:Int)),(14, .int .i64 (i.2.2:Int))]) (fun i=>⟨[],[]⟩) ?_ (l,m,0) ⟨rfl,rfl,h⟩)
 rintro⟨r1,r2,k⟩ ⟨h1,h2,h⟩ IH
 dsimp only at h1 h2 h
 cases r1 with
 |nil=>
  have hC:=drop_nil h1
  simp only[vM]at h
  subst h
  repeat' (first
 |simp only[go_sem,hC,hE,hF,hS]
 |(with_reducible refine ay hQ ?_;exact aK))
 | cons a r1=>
  obtain⟨hE,g2,hC,g4⟩:=drop_cons h1
  cases r2 with
  |nil=>have:=zaX.1 h2;omega
  | cons b r2=>
   obtain⟨lj,b2,yB,_⟩:=drop_cons h2
   have bm:k<4611686018427387904:=by omega
   simp only[vM]at h
   have w1:(true==true)=true:=rfl
   have w2:(false==false)=true:=rfl
   have w3:(true==false)=false:=rfl
   have w4:(false==true)=false:=rfl
   have v1:(true != true)=false:=rfl
   have v2:(false != false)=false:=rfl
   have v3:(true != false)=true:=rfl
   have v4:(false != true)=true:=rfl
   rcases zad a.ref with ea|ea
   ·rcases zad b.ref with eb | eb
    ·simp only [ea,eb,w1,w2,if_true]at h
     repeat' (first
 |simp only[go_sem,hC,hE,hF,hS,lj,yB,ea,eb,w1,w2,v1,v2]
 | (with_reducible refine ay hQ ?_;exact aK))
     refine b9 0 0 ?_ ?_ (IH (r1,r2,k+1) ⟨g2,b2,h⟩ (zac _))
     ·(simp only[go_sem,hC,hE,hF,hS,az bm];try exact aT)
     ·(simp only[go_sem,hC,hE,hF,hS,az bm];try exact aT)
    ·simp only [ea,eb,w3,w4,zaa,if_false]at h
     subst h
     repeat' (first
 |simp only[go_sem,hC,hE,hF,hS,lj,yB,ea,eb,w3,w4,v3,v4]
 | (with_reducible refine ay hQ ?_;exact aK))
   ·rcases zad b.ref with eb | eb
    ·simp only [ea,eb,w3,w4,zaa,if_false]at h
     subst h
     repeat' (first
 |simp only[go_sem,hC,hE,hF,hS,lj,yB,ea,eb,w3,w4,v3,v4]
 | (with_reducible refine ay hQ ?_;exact aK))
    ·simp only [ea,eb,w1,w2,if_true]at h
     repeat' (first
 |simp only[go_sem,hC,hE,hF,hS,lj,yB,ea,eb,w1,w2,v1,v2]
 |(with_reducible refine ay hQ ?_;exact aK))
     refine b9 0 0 ?_ ?_ (IH (r1,r2,k+1) ⟨g2,b2,h⟩ (zac _))
     ·(simp only[go_sem,hC,hE,hF,hS,az bm];try exact aT)
     ·(simp only[go_sem,hC,hE,hF,hS,az bm];try exact aT)
theorem acF {p:Pg} {v:Sm} (h:p.iK) (hv:v.mV) (s:St):aC Tryz.prog 67 [.agg (bQ p), .agg (bn v)] s (.bool (v.l7 p)) s:=by
 refine aC.pure ?_ (by simp[D.bP,D.ok,fH,ke]) rfl s
 obtain⟨n7,nh,pz⟩:=h.procs
 have rr:v.args.length<1000000000:=by have:=Ar.cG v.args;have:=hv.2.2;omega
 generalize hR:v.l7 p=R
 simp only[Sm.l7]at hR
 unfold S0
 have b0:(v.kind != 4) = !(v.kind==4):=rfl
 rcases zad (v.kind==4)with b1|b1
 case inr=>
  rw[b1]at b0
  simp only[b1,zaO]at hR
  subst hR
  refine aC.go xl.h rfl fun B Q hB hQ=>?_
  have⟨hC,hE,hF,hS⟩:=bt
  repeat' (first
 |simp only[go_sem,hC,hE,hF,hS,b0,zao]
 |(with_reducible refine ay hQ ?_;exact aK))
 rw[b1]at b0
 simp only[b1,zbc,Pg.find]at hR
 refine aC.go xl.h rfl fun B Q hB hQ=>?_
 have⟨hC,hE,hF,hS⟩:=bt
 repeat' (first
 |simp only[go_sem,hC,hE,hF,hS,b0,zan]
 |(with_reducible refine ay hQ ?_;exact aK))
 refine b8 2 0 (aV.ind (ι:=List Pc×Nat) (fun i=>p.procs.drop i.2=i.1∧(match jm v.proc i.1 with|none=>false|some q=>Bh q.params v.args)=R) (fun i=>i.1.length)
  (fun i=> [(3, .ptr 1 0),(11, .slice .shared 5 (p.procs.map cf)),(12, .int .i64 (p.procs.length:Int)),(13, .int .i64 (i.2:Int))]) (fun i=>⟨[bQ p,bn v],[]⟩) ?_ (p.procs,0) ⟨rfl,hR⟩)
 clear hR
 rintro⟨rest,k⟩ ⟨h1,hR⟩ IH
 dsimp only at h1 hR
 cases rest with
 |nil=>
  have hC:=drop_nil h1
  simp only[jm]at hR
  subst hR
  repeat' (first
 |simp only[go_sem,hC,hE,hF,hS]
 |(with_reducible refine ay hQ ?_;exact aK))
 | cons a rest=>
  obtain⟨hE,g2,hC,g4⟩:=drop_cons h1
  have bm:k<4611686018427387904:=by omega
  have uK:=h.small (zae hE)
  have F3:=fun s=>acE (l:=a.params) (m:=v.args) (by have:=uK.par;omega) rr s
  simp only[jm]at hR
  rcases zad (a.name==v.proc)with c1|c1
  ·simp only [c1,if_true]at hR
   subst hR
   repeat' (first
 |simp only[go_sem,hC,hE,hF,hS,c1]
 |(with_reducible refine CU (F3 _) ?_)
 | (with_reducible refine ay hQ ?_;exact aK))
  ·simp only [c1,zaa,if_false]at hR
   repeat' (first
 |simp only[go_sem,hC,hE,hF,hS,c1]
 | (with_reducible refine ay hQ ?_;exact aK))
   refine b9 2 0 ?_ ?_ (IH (rest,k+1) ⟨g2,hR⟩ (zac _))
   ·(simp only[go_sem,hC,hE,hF,hS,az bm];try exact aT)
   ·(simp only[go_sem,hC,hE,hF,hS,az bm];try exact aT)
def vN (p:Pg):List Sm→Option Sm
 | []=>none
 |v::l=>if v.kind==4 && !(v.l7 p)then some v else vN p l
def fO (c:Int):Option Sm→Int×Int
 |some v=>(c,v.id)
 |none=>(0,0)
def Pg.arity (p:Pg):Int×Int:=if p.scope.1==0 then fO 6 (vN p p.pre)else(1,0)
theorem Pg.iK.pre {p:Pg} (h:p.iK) : ∀ v∈p.pre,v.mV:=fun v m=>by
 simp only[Pg.pre,List.mem_flatten,zbh]at m
 obtain⟨l,⟨f,hf,rfl⟩,m⟩:=m
 exact h.said hf v m
theorem Jk {p:Pg} (h:p.iK) (s:St):aC Tryz.prog 24 [.agg (bQ p)] s (.agg [.int .i64 p.arity.1, .int .i64 p.arity.2]) s:=by
 refine aC.pure ?_ (by simp[D.bP,D.ok,fH]) rfl s
 obtain⟨n7,nh,pz⟩:=h.procs
 have gS:=fun s=>uJ h s
 have dK:=fun s=>DL (p:=p) (by omega) s
 have hL:=(qn p).1
 have hll:=qo p
 generalize hR:p.arity=R
 simp only[Pg.arity]at hR
 unfold S0
 have b0:(p.scope.1 != 0) = !(p.scope.1==0):=rfl
 rcases zad (p.scope.1==0)with b1|b1
 case inr=>
  rw[b1]at b0
  simp only[b1,zaa,if_false]at hR
  subst hR
  refine aC.go vv.h rfl fun B Q hB hQ=>?_
  have⟨hC,hE,hF,hS⟩:=bt
  repeat' (first
 |simp only[go_sem,hC,hE,hF,hS,b0,zao]
 |(with_reducible refine CU (gS _) ?_)
 |(with_reducible refine ay hQ ?_;exact aK))
 rw[b1]at b0
 simp only[b1,if_true, ← hL]at hR
 refine aC.go vv.h rfl fun B Q hB hQ=>?_
 have⟨hC,hE,hF,hS⟩:=bt
 repeat' (first
 |simp only[go_sem,hC,hE,hF,hS,b0,zan,rM]
 |(with_reducible refine CU (gS _) ?_)
 |(with_reducible refine CU (dK _) ?_)
 |(with_reducible refine ay hQ ?_;exact aK))
 refine b8 2 0 (aV.ind (ι:=List Im×Nat) (fun i=>p.eY.L.drop i.2=i.1∧fO 6 (vN p (i.1.map Im.s))=R) (fun i=>i.1.length)
  (fun i=> [(1, .ptr 0 0),(2, .ptr 1 0),(14, .slice .shared 17 (p.eY.L.map eO)),(15, .int .i64 (p.eY.L.length:Int)),(16, .int .i64 (i.2:Int))]) (fun i=>⟨[bQ p,[.int .i64 0, .int .i64 0]],[]⟩) ?_ (p.eY.L,0) ⟨rfl,hR⟩)
 clear hR
 rintro⟨rest,k⟩ ⟨h1,hR⟩ IH
 dsimp only at h1 hR
 cases rest with
 |nil=>
  have hC:=drop_nil h1
  simp only[zah,vN,fO]at hR
  subst hR
  repeat' (first
 |simp only[go_sem,hC,hE,hF,hS]
 |(with_reducible refine ay hQ ?_;exact aK))
 | cons a rest=>
  obtain⟨hE,g2,hC,g4⟩:=drop_cons h1
  have bm:k<4611686018427387904:=by omega
  have vK:a.s∈p.pre:=by rw[← hL];exact zaT (zae hE)
  have Aq:=fun s=>acF h (h.pre _ vK) s
  simp only[zaf,vN]at hR
  rcases zad (a.s.kind==4)with c1|c1
  ·rcases zad (a.s.l7 p)with c2 | c2
   ·simp only [c1,c2,zan,zbf,zaa,if_false]at hR
    repeat' (first
 |simp only[go_sem,hC,hE,hF,hS,c1,c2]
 |(with_reducible refine CU (Aq _) ?_)
 | (with_reducible refine ay hQ ?_;exact aK))
    refine b9 2 0 ?_ ?_ (IH (rest,k+1) ⟨g2,hR⟩ (zac _))
    ·(simp only[go_sem,hC,hE,hF,hS,az bm];try exact aT)
    ·(simp only[go_sem,hC,hE,hF,hS,az bm];try exact aT)
   ·simp only [c1,c2,zao,zbn,if_true,fO]at hR
    subst hR
    repeat' (first
 |simp only[go_sem,hC,hE,hF,hS,c1,c2]
 |(with_reducible refine CU (Aq _) ?_)
 | (with_reducible refine ay hQ ?_;exact aK))
  ·simp only [c1,zaO,zaa,if_false]at hR
   repeat' (first
 |simp only[go_sem,hC,hE,hF,hS,c1]
 |(with_reducible refine CU (Aq _) ?_)
 | (with_reducible refine ay hQ ?_;exact aK))
   refine b9 2 0 ?_ ?_ (IH (rest,k+1) ⟨g2,hR⟩ (zac _))
   ·(simp only[go_sem,hC,hE,hF,hS,az bm];try exact aT)
   ·(simp only[go_sem,hC,hE,hF,hS,az bm];try exact aT)
theorem DZ {p:Pg} {v:Sm} (h:p.iK) (hv:v.mV) (s:St):aC Tryz.prog 103 [.agg (bQ p), .agg (bn v)] s (.bool (v.l7 p)) s:=by
 refine aC.pure ?_ (by simp[D.bP,D.ok,fH,ke]) rfl s
 obtain⟨n7,nh,pz⟩:=h.procs
 have rr:v.args.length<1000000000:=by have:=Ar.cG v.args;have:=hv.2.2;omega
 have qU:=fun s=>Bf (p:=p) (by omega) v.proc s
 generalize hR:v.l7 p=R
 simp only[Sm.l7]at hR
 unfold S0
 have b0:(v.kind != 4) = !(v.kind==4):=rfl
 cases tp:p.find v.proc with
 |none=>
  simp only[tp,jo,zbH,zbu]at qU
  simp only[tp,zbf]at hR
  subst hR
  refine aC.go mH.h rfl fun B Q hB hQ=>?_
  have⟨hC,hE,hF,hS⟩:=bt
  repeat' (first
 |simp only[go_sem,hC,hE,hF,hS]
 |(with_reducible refine CU (qU _) ?_)
 |(with_reducible first|refine aX fun hc=>?_|refine aY fun hc=>?_|refine aZ (fun hc=>?_) fun hc=>?_)<;>(try simp only[hc,bs,↓reduceIte]at h)<;>try simp only[hc]
 |(with_reducible refine ay hQ ?_;exact aK))
 |some f=>
 have uK:=h.small (ml tp).1
 simp only[tp,jo,zbv,zbl]at qU
 simp only[tp]at hR
 rcases zad (v.kind==4)with b1|b1
 case inr=>
  rw[b1]at b0
  simp only[b1,zaO]at hR
  subst hR
  refine aC.go mH.h rfl fun B Q hB hQ=>?_
  have⟨hC,hE,hF,hS⟩:=bt
  repeat' (first
 |simp only[go_sem,hC,hE,hF,hS,b0,zao]
 |(with_reducible refine CU (qU _) ?_)
 |(with_reducible refine ay hQ ?_;exact aK))
 rw[b1]at b0
 simp only[b1,zbc,Bh]at hR
 have b4:((v.args.length:Int) != (f.params.length:Int)) = !((f.params.length:Int)==(v.args.length:Int)):=by
  rw[bne,show((v.args.length:Int)==(f.params.length:Int))=((f.params.length:Int)==(v.args.length:Int))from Bool.beq_comm]
 rcases zad ((f.params.length:Int)==(v.args.length:Int))with b2|b2
 case inr=>
  rw[b2]at b4
  simp only[b2,zaa,if_false]at hR
  subst hR
  refine aC.go mH.h rfl fun B Q hB hQ=>?_
  have⟨hC,hE,hF,hS⟩:=bt
  repeat' (first
 |simp only[go_sem,hC,hE,hF,hS,b0,b4,zan,zao]
 |(with_reducible refine CU (qU _) ?_)
 |(with_reducible refine ay hQ ?_;exact aK))
 rw[b2]at b4
 simp only[b2,if_true]at hR
 have LU:f.params.length=v.args.length:=by have:=eq_of_beq b2;omega
 refine aC.go mH.h rfl fun B Q hB hQ=>?_
 have⟨hC,hE,hF,hS⟩:=bt
 repeat' (first
 |simp only[go_sem,hC,hE,hF,hS,b0,b4,zan]
 |(with_reducible refine CU (qU _) ?_)
 |(with_reducible refine ay hQ ?_;exact aK))
 refine b8 3 0 (aV.ind (ι:=List Pm×List Ar×Nat) (fun i=>f.params.drop i.2.2=i.1∧v.args.drop i.2.2=i.2.1∧vM i.1 i.2.1=R) (fun i=>i.1.length)
  (fun i=> [(3, .ptr 1 0),(5, .ptr 2 0),(33, .int .i64 (v.args.length:Int)),(34, .int .i64 (i.2.2:Int))]) (fun i=>⟨[bQ p,bn v,cf f],[]⟩) ?_ (f.params,v.args,0) ⟨rfl,rfl,hR⟩)
 clear hR
 rintro⟨r1,r2,k⟩ ⟨h1,h2,hR⟩ IH
 dsimp only at h1 h2 hR
 cases r1 with
 |nil=>
  have hC:=drop_nil h1
  rw[LU]at hC
  simp only[vM]at hR
  subst hR
  repeat' (first
 |simp only[go_sem,hC,hE,hF,hS]
 |(with_reducible refine ay hQ ?_;exact aK))
 | cons a r1=>
  obtain⟨hE,g2,hC,g4⟩:=drop_cons h1
  cases r2 with
  |nil=>have:=zaX.1 h2;omega
  | cons b r2=>
   obtain⟨lj,b2',yB,_⟩:=drop_cons h2
   have bm:k<4611686018427387904:=by omega
   simp only[vM]at hR
   have w1:(true==true)=true:=rfl
   have w2:(false==false)=true:=rfl
   have w3:(true==false)=false:=rfl
   have w4:(false==true)=false:=rfl
   have v1:(true != true)=false:=rfl
   have v2:(false != false)=false:=rfl
   have v3:(true != false)=true:=rfl
   have v4:(false != true)=true:=rfl
   rcases zad a.ref with ea|ea
   ·rcases zad b.ref with eb | eb
    ·simp only [ea,eb,w1,w2,if_true]at hR
     repeat' (first
 |simp only[go_sem,hC,hE,hF,hS,lj,yB,ea,eb,w1,w2,v1,v2]
 | (with_reducible refine ay hQ ?_;exact aK))
     refine b9 3 0 ?_ ?_ (IH (r1,r2,k+1) ⟨g2,b2',hR⟩ (zac _))
     ·(simp only[go_sem,hC,hE,hF,hS,az bm];try exact aT)
     ·(simp only[go_sem,hC,hE,hF,hS,az bm];try exact aT)
    ·simp only [ea,eb,w3,w4,zaa,if_false]at hR
     subst hR
     repeat' (first
 |simp only[go_sem,hC,hE,hF,hS,lj,yB,ea,eb,w3,w4,v3,v4]
 | (with_reducible refine ay hQ ?_;exact aK))
   ·rcases zad b.ref with eb | eb
    ·simp only [ea,eb,w3,w4,zaa,if_false]at hR
     subst hR
     repeat' (first
 |simp only[go_sem,hC,hE,hF,hS,lj,yB,ea,eb,w3,w4,v3,v4]
 | (with_reducible refine ay hQ ?_;exact aK))
    ·simp only [ea,eb,w1,w2,if_true]at hR
     repeat' (first
 |simp only[go_sem,hC,hE,hF,hS,lj,yB,ea,eb,w1,w2,v1,v2]
 |(with_reducible refine ay hQ ?_;exact aK))
     refine b9 3 0 ?_ ?_ (IH (r1,r2,k+1) ⟨g2,b2',hR⟩ (zac _))
     ·(simp only[go_sem,hC,hE,hF,hS,az bm];try exact aT)
     ·(simp only[go_sem,hC,hE,hF,hS,az bm];try exact aT)
theorem Wq {p:Pg} (h:p.iK) (hb:p.may=true) (s:St):aC Tryz.prog 50 [.agg (bQ p)] s (.agg [.int .i64 (fO 6 (vN p p.pre)).1, .int .i64 (fO 6 (vN p p.pre)).2]) s:=by
 refine aC.pure ?_ (by simp[D.bP,D.ok,fH]) rfl s
 obtain⟨n7,nh,pz⟩:=h.procs
 have rr:=fun s=>Pa (p:=p) (by omega) s
 have hL:=(oR hb).2
 have hll:=(tZ hb).1
 generalize hR:fO 6 (vN p p.pre)=R
 rw[← hL]at hR
 unfold S0
 refine aC.go EG.h rfl fun B Q hB hQ=>?_
 have⟨hC,hE,hF,hS⟩:=bt
 repeat' (first
 |simp only[go_sem,hC,hE,hF,hS]
 |(with_reducible refine CU (rr _) ?_)
 |(with_reducible refine ay hQ ?_;exact aK))
 refine b8 2 0 (aV.ind (ι:=List It×Nat) (fun i=>p.all.drop i.2=i.1∧fO 6 (vN p (i.1.map It.s))=R) (fun i=>i.1.length)
  (fun i=> [(1, .ptr 0 0),(2, .ptr 1 0),(6, .slice .shared 16 (p.all.map dX)),(7, .int .i64 (p.all.length:Int)),(8, .int .i64 (i.2:Int))]) (fun i=>⟨[bQ p,[.int .i64 0, .int .i64 0]],[]⟩) ?_ (p.all,0) ⟨rfl,hR⟩)
 clear hR
 rintro⟨rest,k⟩ ⟨h1,hR⟩ IH
 dsimp only at h1 hR
 cases rest with
 |nil=>
  have hC:=drop_nil h1
  simp only[zah,vN,fO]at hR
  subst hR
  repeat' (first
 |simp only[go_sem,hC,hE,hF,hS]
 |(with_reducible refine ay hQ ?_;exact aK))
 | cons a rest=>
  obtain⟨hE,g2,hC,g4⟩:=drop_cons h1
  have bm:k<4611686018427387904:=by omega
  have vK:a.s∈p.pre:=by rw[← hL];exact zaT (zae hE)
  have Aq:=fun s=>DZ h (h.pre _ vK) s
  simp only[zaf,vN]at hR
  rcases zad (a.s.kind==4)with c1|c1
  ·rcases zad (a.s.l7 p)with c2 | c2
   ·simp only [c1,c2,zan,zbf,zaa,if_false]at hR
    repeat' (first
 |simp only[go_sem,hC,hE,hF,hS,c1,c2]
 |(with_reducible refine CU (Aq _) ?_)
 | (with_reducible refine ay hQ ?_;exact aK))
    refine b9 2 0 ?_ ?_ (IH (rest,k+1) ⟨g2,hR⟩ (zac _))
    ·(simp only[go_sem,hC,hE,hF,hS,az bm];try exact aT)
    ·(simp only[go_sem,hC,hE,hF,hS,az bm];try exact aT)
   ·simp only [c1,c2,zao,zbn,if_true,fO]at hR
    subst hR
    repeat' (first
 |simp only[go_sem,hC,hE,hF,hS,c1,c2]
 |(with_reducible refine CU (Aq _) ?_)
 |(with_reducible refine CU (fp _ _ _) ?_)
 | (with_reducible refine ay hQ ?_;exact aK))
  ·simp only [c1,zaO,zaa,if_false]at hR
   repeat' (first
 |simp only[go_sem,hC,hE,hF,hS,c1]
 |(with_reducible refine CU (Aq _) ?_)
 | (with_reducible refine ay hQ ?_;exact aK))
   refine b9 2 0 ?_ ?_ (IH (rest,k+1) ⟨g2,hR⟩ (zac _))
   ·(simp only[go_sem,hC,hE,hF,hS,az bm];try exact aT)
   ·(simp only[go_sem,hC,hE,hF,hS,az bm];try exact aT)
theorem ni {p:Pg} (h:(p.scope.1==0)=true):p.may=true:=by
 unfold Pg.scope at h
 split at h
 ·assumption
 ·cases h
def ki (out:List aB):List aB→aB→Bool→aB×Bool
 | [],c,a=>(c,a)
 |s::l,c,a=>if !(dq out s) && (!a ||bytesLess s c)then ki out l s true else ki out l c a
def Jl (l out:List aB):List aB:=if(ki out l [] false).2 then out++ [(ki out l [] false).1]else out
def lJ (l:List aB):Nat→List aB→List aB
 | 0,out=>out
 |n+1,out=>lJ l n (Jl l out)
def gG (l:List aB):List aB:=lJ l l.length []
theorem Cu {l:List aB} (hl:l.length<100000000) (g:Tag) (s:St):aC Tryz.prog 185 [.slice g 1 (l.map encStr)] s (.slice .shared 1 ((gG l).map encStr)) s:=by
 refine aC.FX (d':= .slice .shared 1 (l.map encStr)) ?_ (Wk.shared _ _ _)
 refine aC.pure ?_ (by simp[D.bP,D.ok,Tag.ok,da]) (by simp only[D.ok,Tag.ok,da];rfl) s
 generalize hR:gG l=R
 simp only[gG]at hR
 unfold S0
 refine aC.go Dx.h rfl fun B Q hB hQ=>?_
 have⟨hC,hE,hF,hS⟩:=bt
 repeat' (first
 |simp only[go_sem,hC,hE,hF,hS]
 |(with_reducible refine ay hQ ?_;exact aK))
 refine aV.gY 3 1 rfl ?_
 simp only[go_sem,hC,hE,hF,hS]
 refine b8 0 1 (aV.ind (ι:=Nat×Nat×List aB×Nat) (fun i=>i.1+i.2.1=l.length∧lJ l i.1 i.2.2.1=R∧i.2.2.1.length≤i.2.1∧i.2.2.2=i.2.2.1.length) (fun i=>i.1)
  (fun i=> [(0, .slice .shared 1 (l.map encStr)),(3, .slice (.tok 0) 1 (i.2.2.1.map encStr)),(9, .int .i64 (l.length:Int)),(10, .int .i64 (i.2.1:Int))]) (fun i=>⟨[],[some i.2.2.2]⟩) ?_ (l.length,0,[],0) ⟨rfl,hR,zaj _,rfl⟩)
 rintro⟨n,k,out,no⟩ ⟨h1,h2,h3,h4⟩ IH
 dsimp only at h1 h2 h3 h4
 subst h4
 cases n with
 |zero=>
  have hC:decide ((k:Int)<(l.length:Int))=false:=by simp;omega
  simp only[lJ]at h2
  subst h2
  repeat' (first
 |simp only[go_sem,hC,hE,hF,hS]
 |(with_reducible refine ay hQ ?_;exact aK))
 |succ n=>
  have hC:decide ((k:Int)<(l.length:Int))=true:=by simp;omega
  have bm:k<4611686018427387904:=by omega
  have hF:(out.length+1)*17≤bh:=by unfold bh;omega
  have jS:=fun x g s=>wF (l:=out) (by omega) x g s
  simp only[lJ,Jl]at h2
  repeat' (first
 |simp only[go_sem,hC,hE,hF,hS]
 | (with_reducible refine ay hQ ?_;exact aK))
  obtain⟨q,hq⟩ : ∃ q,ki out l [] false=q:=⟨_,rfl⟩
  rw[hq]at h2
  refine b8 0 1 (aV.ind (ι:=List aB×Nat×aB×Bool) (fun i=>l.drop i.2.1=i.1∧ki out i.1 i.2.2.1 i.2.2.2=q) (fun i=>i.1.length)
   (fun i=> [(0, .slice .shared 1 (l.map encStr)),(3, .slice (.tok 0) 1 (out.map encStr)),(4, .str i.2.2.1),(5, .bool i.2.2.2),(9, .int .i64 (l.length:Int)),(10, .int .i64 (k:Int)),(12, .slice .shared 1 (l.map encStr)),(13, .int .i64 (l.length:Int)),(14, .int .i64 (i.2.1:Int))]) (fun i=>⟨[],[some out.length]⟩) ?_ (l,0,[],false) ⟨rfl,hq⟩)
  rintro⟨rest,j,c,a⟩ ⟨j1,j2⟩ mE
  dsimp only at j1 j2
  cases rest with
  | nil=>
   have acH:=drop_nil j1
   simp only[ki]at j2
   subst j2
   cases a
   ·simp only [zaa,if_false]at h2
    repeat' (first
 |simp only[go_sem,hC,hE,hF,hS,acH]
 | (with_reducible refine ay hQ ?_;exact aK))
    refine b9 0 1 ?_ ?_ (IH (n,k+1,out,_) ⟨by dsimp only;omega,h2,by dsimp only;omega,rfl⟩ (zac _))
    ·(simp only[go_sem,hC,hE,hF,hS,az bm];try exact aT)
    ·(simp only[go_sem,hC,hE,hF,hS,az bm];try exact aT)
   ·simp only [if_true]at h2
    repeat' (first
 |simp only[go_sem,hC,hE,hF,hS,acH]
 | (with_reducible refine ay hQ ?_;exact aK))
    refine b9 0 1 ?_ ?_ (IH (n,k+1,out++ [c],out.length+1) ⟨by dsimp only;omega,h2,by simp;omega,by simp⟩ (zac _))
    ·(simp only[go_sem,hC,hE,hF,hS,az bm,zag,zaf,zah,encStr];try exact aT)
    ·(simp only[go_sem,hC,hE,hF,hS,az bm,zag,zaf,zah,encStr];try exact aT)
  | cons x rest=>
   obtain⟨ez,mF,gX,DW⟩:=drop_cons j1
   have eS:j<4611686018427387904:=by omega
   simp only[ki]at j2
   rcases zad (dq out x)with c1|c1
   ·simp only [c1,zan,zaO,zaa,if_false]at j2
    repeat' (first
 |simp only[go_sem,hC,hE,hF,hS,gX,ez,c1]
 |(with_reducible refine CU (jS _ _ _) ?_)
 | (with_reducible refine ay hQ ?_;exact aK))
    refine b9 0 1 ?_ ?_ (mE (rest,j+1,c,a) ⟨mF,j2⟩ (zac _))
    ·(simp only[go_sem,hC,hE,hF,hS,az eS];try exact aT)
    ·(simp only[go_sem,hC,hE,hF,hS,az eS];try exact aT)
   ·cases a
    ·simp only [c1,zao,za6,zbJ,if_true]at j2
     repeat' (first
 |simp only[go_sem,hC,hE,hF,hS,gX,ez,c1]
 |(with_reducible refine CU (jS _ _ _) ?_)
 | (with_reducible refine ay hQ ?_;exact aK))
     refine b9 0 1 ?_ ?_ (mE (rest,j+1,x,true) ⟨mF,j2⟩ (zac _))
     ·(simp only[go_sem,hC,hE,hF,hS,az eS];try exact aT)
     ·(simp only[go_sem,hC,hE,hF,hS,az eS];try exact aT)
    ·rcases zad (bytesLess x c)with c2 | c2
     ·simp only [c1,c2,zao,zan,zbt,zbJ,if_true]at j2
      repeat' (first
 |simp only[go_sem,hC,hE,hF,hS,gX,ez,c1,c2]
 |(with_reducible refine CU (jS _ _ _) ?_)
 |(with_reducible refine ay hQ ?_;exact aK))
      refine b9 0 1 ?_ ?_ (mE (rest,j+1,x,true) ⟨mF,j2⟩ (zac _))
      ·(simp only[go_sem,hC,hE,hF,hS,az eS];try exact aT)
      ·(simp only[go_sem,hC,hE,hF,hS,az eS];try exact aT)
     ·simp only [c1,c2,zao,zan,zbI,zbf,zaa,if_false]at j2
      repeat' (first
 |simp only[go_sem,hC,hE,hF,hS,gX,ez,c1,c2]
 |(with_reducible refine CU (jS _ _ _) ?_)
 |(with_reducible refine ay hQ ?_;exact aK))
      refine b9 0 1 ?_ ?_ (mE (rest,j+1,c,true) ⟨mF,j2⟩ (zac _))
      ·(simp only[go_sem,hC,hE,hF,hS,az eS];try exact aT)
      ·(simp only[go_sem,hC,hE,hF,hS,az eS];try exact aT)
end Go.Abs
namespace Go.Proofs
open Go.Shelf
def Tryz.K3:Go.Shelf.Ren:=⟨fun| 190=>126| 125=>169| 258=>168| 128=>202| 129=>203| 302=>193| 303=>194| 304=>195| 305=>196| 306=>197| 307=>198| 308=>199| 309=>200| 310=>201| 333=>220| 329=>221| 330=>222| 334=>223| 335=>224| 336=>225| 344=>238|n=>n,fun| 31=>22| 9=>9| 3=>3| 46=>177| 0=>0| 51=>194| 53=>196| 4=>4| 183=>187| 182=>186| 131=>131| 5=>5| 218=>209| 222=>213| 228=>221| 229=>218|n=>n,fun|n=>n⟩
theorem Tryz.LV:Go.Proofs.Lays.n190 Tryz.prog Tryz.K3:= {
 mixed:=by kernel_rfl
 f125:=Tryz.func169.trans (congrArg some (by kernel_rfl))
 f128:=Tryz.func202.trans (congrArg some (by kernel_rfl))
 f129:=Tryz.func203.trans (congrArg some (by kernel_rfl))
 f190:=Tryz.func126.trans (congrArg some (by kernel_rfl))
 f258:=Tryz.func168.trans (congrArg some (by kernel_rfl))
 f302:=Tryz.func193.trans (congrArg some (by kernel_rfl))
 f303:=Tryz.func194.trans (congrArg some (by kernel_rfl))
 f304:=Tryz.func195.trans (congrArg some (by kernel_rfl))
 f305:=Tryz.func196.trans (congrArg some (by kernel_rfl))
 f306:=Tryz.func197.trans (congrArg some (by kernel_rfl))
 f307:=Tryz.func198.trans (congrArg some (by kernel_rfl))
 f308:=Tryz.func199.trans (congrArg some (by kernel_rfl))
 f309:=Tryz.func200.trans (congrArg some (by kernel_rfl))
 f310:=Tryz.func201.trans (congrArg some (by kernel_rfl))
 f329:=Tryz.func221.trans (congrArg some (by kernel_rfl))
 f330:=Tryz.func222.trans (congrArg some (by kernel_rfl))
 f333:=Tryz.func220.trans (congrArg some (by kernel_rfl))
 f334:=Tryz.func223.trans (congrArg some (by kernel_rfl))
 f335:=Tryz.func224.trans (congrArg some (by kernel_rfl))
 f336:=Tryz.func225.trans (congrArg some (by kernel_rfl))
 f344:=Tryz.func238.trans (congrArg some (by kernel_rfl))
 t0:=Tryz.underlying0
 a0:=Tryz.isAgg0
 z0:=Tryz.sizeOf0
 v0:=Tryz.zeroValue0
 t3:=Tryz.underlying3
 a3:=Tryz.isAgg3
 z3:=Tryz.sizeOf3
 v3:=Tryz.zeroValue3
 t4:=Tryz.underlying4
 a4:=Tryz.isAgg4
 z4:=Tryz.sizeOf4
 v4:=Tryz.zeroValue4
 t5:=Tryz.underlying5
 a5:=Tryz.isAgg5
 z5:=Tryz.sizeOf5
 v5:=Tryz.zeroValue5
 t9:=Tryz.underlying9
 a9:=Tryz.isAgg9
 z9:=Tryz.sizeOf9
 v9:=Tryz.zeroValue9
 t31:=Tryz.underlying22
 a31:=Tryz.isAgg22
 z31:=Tryz.sizeOf22
 v31:=Tryz.zeroValue22
 t46:=Tryz.underlying177
 a46:=Tryz.isAgg177
 z46:=Tryz.sizeOf177
 v46:=Tryz.zeroValue177
 t51:=Tryz.underlying194
 a51:=Tryz.isAgg194
 z51:=Tryz.sizeOf194
 v51:=Tryz.zeroValue194
 t53:=Tryz.underlying196
 a53:=Tryz.isAgg196
 z53:=Tryz.sizeOf196
 v53:=Tryz.zeroValue196
 t131:=Tryz.underlying131
 a131:=Tryz.isAgg131
 z131:=Tryz.sizeOf131
 v131:=Tryz.zeroValue131
 t182:=Tryz.underlying186
 a182:=Tryz.isAgg186
 z182:=Tryz.sizeOf186
 v182:=Tryz.zeroValue186
 t183:=Tryz.underlying187
 a183:=Tryz.isAgg187
 z183:=Tryz.sizeOf187
 v183:=Tryz.zeroValue187
 t218:=Tryz.underlying209
 a218:=Tryz.isAgg209
 z218:=Tryz.sizeOf209
 v218:=Tryz.zeroValue209
 t222:=Tryz.underlying213
 a222:=Tryz.isAgg213
 z222:=Tryz.sizeOf213
 v222:=Tryz.zeroValue213
 t228:=Tryz.underlying221
 a228:=Tryz.isAgg221
 z228:=Tryz.sizeOf221
 v228:=Tryz.zeroValue221
 t229:=Tryz.underlying218
 a229:=Tryz.isAgg218
 z229:=Tryz.sizeOf218
 v229:=Tryz.zeroValue218}
open Go.Sort Go.RowKit in
theorem Tryz.slices_Sort_string (uL off cap:Nat) (ss:List (List UInt8)) (w:World) (hH:Holds encStr w uL off ss.toArray) (ahY:uL<w.heap.size) (dz:ss.length<4611686018427387904) :
 Calls Tryz.prog 126 #[.slice (some ⟨uL,off,none⟩) ss.length cap] w fun e w'=>
  e = .returned (.tuple #[])∧∃ n os,w'=grow (putRow encStr (Sort.ahead w n) uL off (ss.mergeSort fun x y=>decide (x≤y)).toArray) os:=Any.slices_Sort_string Tryz.LV uL off cap ss w hH ahY dz
def Tryz.K4:Go.Shelf.Ren:=⟨fun| 194=>127|n=>n,fun| 31=>22| 9=>9| 3=>3| 4=>4| 0=>0|n=>n,fun|n=>n⟩
theorem Tryz.LW:Go.Proofs.Lays.n194 Tryz.prog Tryz.K4:= {
 mixed:=by kernel_rfl
 f194:=Tryz.func127.trans (congrArg some (by kernel_rfl))
 t0:=Tryz.underlying0
 a0:=Tryz.isAgg0
 z0:=Tryz.sizeOf0
 v0:=Tryz.zeroValue0
 t3:=Tryz.underlying3
 a3:=Tryz.isAgg3
 z3:=Tryz.sizeOf3
 v3:=Tryz.zeroValue3
 t4:=Tryz.underlying4
 a4:=Tryz.isAgg4
 z4:=Tryz.sizeOf4
 v4:=Tryz.zeroValue4
 t9:=Tryz.underlying9
 a9:=Tryz.isAgg9
 z9:=Tryz.sizeOf9
 v9:=Tryz.zeroValue9
 t31:=Tryz.underlying22
 a31:=Tryz.isAgg22
 z31:=Tryz.sizeOf22
 v31:=Tryz.zeroValue22}
open Go.RowKit Go.Lib Go.Sort in
theorem Tryz.slices_Compact_string (uL off cap:Nat) (zs:List (List UInt8)) (w:World) (hH:Holds encStr w uL off zs.toArray) (dz:zs.length≤9223372036854775807) (sV:zs.length≤cap) :
 Calls Tryz.prog 127 #[.slice (some ⟨uL,off,none⟩) zs.length cap] w fun e w'=>e = .returned (.slice (some ⟨uL,off,none⟩) (Lib.compact zs).length cap)∧∃ q,w'=putRow encStr (Sort.ahead w q) uL off (Lib.compact zs++List.replicate (zs.length - (Lib.compact zs).length) []).toArray:=Any.slices_Compact_string Tryz.LW uL off cap zs w hH dz sV
open Go.RowKit Go.Lib Go.Sort in
theorem Tryz.slices_Compact_string_empty (a:Option Addr) (cap:Nat) (w:World) :
 Calls Tryz.prog 127 #[.slice a 0 cap] w fun e w'=>e = .returned (.slice a 0 cap)∧w'=w:=Any.slices_Compact_string_empty Tryz.LW a cap w
open Go.RowKit Go.Sort in
theorem Tryz.slices_Sort_string_none (p:Option Addr) (cap:Nat) (w:World) :
 Calls Tryz.prog 126 #[.slice p 0 cap] w fun e w'=>e = .returned (.tuple #[])∧w'=w:=Any.slices_Sort_string_none Tryz.LV p cap w
end Go.Proofs
namespace Go.Abs
open Go.Proofs
section
variable {P:Program} {B:eQ} {nt:Nat}
theorem ZK {x:Operand} {t:Nat} (h:cX x=some (.s t)):x = .tmp t:=by
 unfold cX at h
 split at h
 ·cases h;rfl
 ·obtain⟨d,_,h⟩:=map_some h;cases h
 ·cases h
 ·cases h
theorem Pp {ops:Array Oper} {o:Oper} {g g':Option (Nat×Bool)} {dst:Option Nat} {f:Nat} {xs:List X} (h:rS P ops o g=some (.call dst g' f xs)) :
 g'=g∧∃ args mz,o.op = .call ⟨.value (.func f),args,mz⟩∧enters P f=true∧wQ args.toList=some xs:=by
 unfold rS at h
 split at h
 ·rename_i f' args mz lE
  split at h
  ·rename_i he
   obtain⟨xs',h1,h2⟩:=map_some h
   cases h2
   exact⟨rfl,args,mz,lE,he,h1⟩
  ·cases h
 ·obtain⟨_,_,h⟩:=map_some h;cases h
 ·split at h
  ·cases h
  ·split at h<;>cases h
theorem Sn {ops:Array Oper} {o:Oper} {tmps:Array Value} (hg:uh ops o.guard=some none):Region.wanted o (yielded ops tmps)=true:=by
 have:o.guard=none:=by
  cases Fz:o.guard with
  |none=>rfl
  |some p=>
   obtain⟨j,b⟩:=p
   rw[Fz]at hg
   unfold uh at hg
   simp only at hg
   split at hg<;>cases hg
 simp[Region.wanted,this]
theorem Sem.acJ {a k b f:Nat} {is:List AI} {Q:Exit→Tm→St→Prop} {tm:Tm} {s:St}
 (aft : ∀ act w,Holds B nt (tm.put (some a) (tm.get k)) s act w→Calls P f #[act.tmps.getD a Go.undef] w fun e w'=>∃ v,e = .returned v∧∃ cb s',Holds B nt cb s' (act.put (some b) v) w'∧iR P is (Q .normal) cb s') :
 Sem P B nt (.run (.op (some a) none (.mv (.s k)):: .call (some b) none f [.s a]::is)) Q tm s:=by
 intro c hc act w hh
 obtain⟨id,ops,rfl,hi⟩:=lg hc
 refine wp_region ?_
 have key : ∀ (l:List Nat) (ol:List Oper),l.map (ops[·]?)=ol.map some→pK P nt ops ol=some (.op (some a) none (.mv (.s k)):: .call (some b) none f [.s a]::is)→wpOps P ops (pD B nt Q) l act w:=by
  intro l ol hl wu
  match ol,l,hl with
  | [],_,_=>simp[pK]at wu
  |o0::ol,[],hl=>simp at hl
  | o0::ol,j0::l,hl=>
   simp only[zaf,List.cons.injEq]at hl
   obtain⟨hj0,hl⟩:=hl
   unfold pK at wu
   split at wu
   ·rename_i i0 is0 h1 h2
    cases wu
    match ol,l,hl,h2 with
    | [],_,_,h2=>simp[pK]at h2
    |o1::ol,[],hl,_=>simp at hl
    | o1::ol,j1::l,hl,h2=>
     simp only[zaf,List.cons.injEq]at hl
     obtain⟨hj1,hl⟩:=hl
     unfold pK at h2
     split at h2
     ·rename_i i1 is1 h3 h4
      cases h2
      obtain⟨M,e,r,ht,hn,hd⟩:=hh
      have FZ:=sA h1
      have hd1:=sA h3
      simp only[AI.dst]at FZ hd1
      refine wq (K':=fun cb s'=>cb=tm.put (some a) (tm.get k)∧s'=s) hj0 h1 r (B.laid.ext e) ht (by simp only[iR,guarded,a6,X.ev,and_self]) (fun d v s1 w1 M1 hk e1 r1 hv=>?_)
      obtain⟨fj,rfl⟩:=hk
      have hH:=Holds.put e ht hn hd (xc h1) e1 r1 hv
      simp only[AI.dst]at fj
      rw[← FZ]at hH ⊢
      rw[fj]at hH
      obtain⟨g,hg,_,hb⟩:=zV h3
      obtain⟨rfl,args,mz,lE,yf,n8⟩:=Pp hb
      simp only[wpOps,hj1,Sn hg,if_true]
      left
      have VK:args.map (act.put (some a) v).eval = #[(act.put (some a) v).tmps.getD a Go.undef]:=by
       have:args.toList = [.tmp a]:=by
        match hA:args.toList with
        | []=>rw[hA]at n8;simp[wQ]at n8
        | [x]=>
         rw[hA]at n8
         simp only[wQ]at n8
         split at n8
         ·rename_i x' r' hx hr
          cases n8
          rw[ZK hx]
         ·cases n8
        | x::y::z=>
         rw[hA]at n8
         simp only[wQ]at n8
         split at n8
         ·rename_i x' r' hx hr
          cases n8
          split at hr
          ·cases hr
          ·cases hr
         ·cases n8
       have:args = #[.tmp a]:=by rw[← zaW (xs:=args),this]
       rw[this]
       simp only[List.map_toArray,zaf,zah]
       rfl
      have hex:(execOp (act.put (some a) v).eval o1).run P w1 = .ok (.enter f #[(act.put (some a) v).tmps.getD a Go.undef]) w1:=by
       obtain⟨dst,op,type,pos,after,guard⟩:=o1
       simp only at lE
       subst lE
       rw[← VK]
       exact wi (act.put (some a) v).eval dst f args mz type pos after guard rfl yf w1
      unfold Oper.wp
      rw[hex,Oper.upon_enter]
      refine(aft _ _ hH).mono ?_
      rintro en w' ⟨v',rfl,cb,s',hH',hvc⟩
      rw[← hd1]
      exact zP (Q:=Q) l ol _ hl h4 cb s' _ w' hvc hH'
     ·cases h2
   ·cases wu
 exact key _ _ (zQ ops) hi
theorem Gg (hB:B.s = ⟨[],[]⟩) {tm:Tm} {s:St} {act:Act} {w:World} (h:Holds B nt tm s act w) {t:Nat} {l:List aB} (ht:s.aE[t]? = some (some l.length)) {k0:Nat} (sL:tm.get k0 = .slice (.tok t) 1 (l.map encStr)) :
 (l = []∧∀ k,tm.get k = .slice (.tok t) 1 (l.map encStr)→(act.tmps.getD k Go.undef = .slice none 0 0∨∃ b q,act.tmps.getD k Go.undef = .slice (some ⟨b,q,none⟩) 0 0))∨
 ∃ (b cap:Nat) (vs:Array Value) (T:TypeId),(∀ k,tm.get k = .slice (.tok t) 1 (l.map encStr)→act.tmps.getD k Go.undef = .slice (some ⟨b,0,none⟩) l.length cap)∧l.length≤cap∧w.heap[b]? = some (.cells vs T (0,0))∧vs.size=cap∧B.w.heap.size≤b∧
  ∀ j (hj:j<l.length),vs[j]? = some (.string ⟨⟨l[j]⟩⟩):=by
 obtain⟨M,e,r,hr,_,_⟩:=h
 rcases r.tok t _ ht with ⟨h3,h4⟩|⟨b,cap,z,vs,T,h3,h4,h5,h6,h7⟩
 ·have hl:l = []:=zbi h4
  subst hl
  refine .inl ⟨rfl,fun k hk=>?_⟩
  have hv:=hr k
  rw[hk]at hv
  generalize act.tmps.getD k Go.undef=v at hv
  cases hv with
  |jX _ _ cap hc mA=>subst hc;exact .inl rfl
  |slice _ _ _ b q cap hl hs h1 h2 mA=>
   rcases(mA.2 _ ht).2 rfl with ⟨_,h0,_⟩|⟨b',_,kC⟩
   ·subst h0;exact .inr ⟨b,q,rfl⟩
   ·rw[h3]at kC;cases kC
 ·right
  have each : ∀ k,tm.get k = .slice (.tok t) 1 (l.map encStr)→z=1∧act.tmps.getD k Go.undef = .slice (some ⟨b,0,none⟩) l.length cap∧l.length≤cap∧∀ j (hj:j<l.length),∃ u,M.G b j=some u∧RD M s (.str l[j]) u:=by
   intro k hk
   have hv:=hr k
   rw[hk]at hv
   generalize act.tmps.getD k Go.undef=v at hv
   generalize ly:l.map encStr=rows at hv
   cases hv with
   |jX _ _ cap hc mA=>
    have hl:l = []:=by cases l<;>simp at ly;rfl
    subst hl
    rcases(mA.2 _ ht).2 rfl with ⟨h0,_⟩|⟨b',h0,_⟩
    ·rw[h3]at h0;cases h0
    ·cases h0
   | slice _ _ _ b2 q alw hl hs h1 h2 mA=>
    subst ly
    rw[zaC]at hl mA
    rcases(mA.2 _ ht).2 rfl with ⟨h0,_⟩|⟨b',hb,kC⟩
    ·rw[h3]at h0;cases h0
    ·cases hb
     rw[h3]at kC
     cases kC
     refine⟨rfl,by rw[zaC],hl,fun j hj=>?_⟩
     have e1:(l.map encStr)[j]? = some [.str l[j]]:=by rw[zat,zap hj];rfl
     obtain⟨u,hu⟩:=h1 j _ 0 _ e1 rfl
     refine⟨u,by simpa using hu,h2 j _ 0 _ u e1 rfl hu⟩
  obtain⟨rfl,_,sV,lP⟩:=each k0 sL
  have dK:B.w.heap.size≤b:=by
   rcases e.qA t b cap 1 ⟨_,ht⟩ h3 with ⟨⟨n,hn⟩,_⟩|h
   ·rw[hB]at hn;simp at hn
   ·exact h
  refine⟨b,cap,vs,T,fun k hk=>(each k hk).2.1,sV,h4,by simpa[zs]using h5,dK,fun j hj=>?_⟩
  obtain⟨u,hu,j8⟩:=lP j hj
  have:=(r.comm _ _ _ hu).1
  rw[ju h4,j8.k5]at this
  exact this
theorem Jm (hB:B.s = ⟨[],[]⟩) {tm:Tm} {s:St} {act td:Act} {w w':World} (h:Holds B nt tm s act w) {b cap:Nat} {vs:Array Value} {T:TypeId} (dz:vs.size=cap) (r9:B.w.heap.size≤b)
 (lL : ∀ q,q<B.w.heap.size→w'.heap[q]? = w.heap[q]?) (eD:w'.heap[b]? = some (.cells vs T (0,0))) (dN:w.heap.size≤w'.heap.size) (FI:w'.os=w.os) (uq:w'.tape=w.tape) (B6:w'.output=w.output)
 {l:List aB} (hl:l.length≤cap) (lP : ∀ j (hj:j<l.length),vs[j]? = some (.string ⟨⟨l[j]⟩⟩)) {k:Nat} (Pq:td.tmps.getD k Go.undef = .slice (some ⟨b,0,none⟩) l.length cap) (hn:td.tmps.size=nt) (hd:td.defers = []) :
 Holds B nt [(k, .slice (.tok 0) 1 (l.map encStr))] ⟨[],[some l.length]⟩ td w':=by
 obtain⟨M,e,r,hr,_,_⟩:=h
 let M':Map:=⟨fun q o=>if q=b then(if o<l.length then(l[o]?).map fun x=>Value.string ⟨⟨x⟩⟩else none)else B.M.G q o,B.M.loc,fun _=>some (b,cap,1)⟩
 have hGb : ∀ q o v,B.M.G q o=some v→q<B.w.heap.size∧w'.cell? ⟨q,o,none⟩=some v∧v.oneCell'=true:=by
  intro q o v hq
  obtain⟨h1,h2⟩:=r.comm q o v (e.le.G q o v hq)
  have hC:=B.old q o v hq
  refine⟨hC, ?_,h2⟩
  rw[← h1]
  simp[World.cell?,lL q hC]
 have AY : ∀ j (hj:j<l.length),w'.cell? ⟨b,j,none⟩=some (.string ⟨⟨l[j]⟩⟩):=fun j hj=>by rw[ju eD];exact lP j hj
 have hE : ∀ (j:Nat) v,(if j<l.length then(l[j]?).map fun x=>Value.string ⟨⟨x⟩⟩else none)=some v→∃ hj:j<l.length,v = .string ⟨⟨l[j]⟩⟩:=by
  intro j v hv
  split at hv
  ·rename_i hj
   rw[zap hj]at hv
   exact⟨hj,by simpa using hv.symm⟩
  ·cases hv
 refine⟨M',⟨⟨fun q o v hq=>?_,by simp[hB],fun o ho=> .refl _,by rw[hB];exact zau _,fun t n' ht _=>by rw[hB]at ht;exact absurd ht (zaM _)⟩,fun q hq _ _=>?_,fun o _ h2=>absurd h2 (zaM _),fun t q c z _ hb=>?_,fun q o eF=>?_,zaN e.size dN,FI.trans e.os,uq.trans e.tape,B6.trans e.output⟩,
  ⟨fun q o v hq=>?_,fun o ds ho=>by simp at ho,fun o ho=>absurd ho (zaM _),fun o o' ho=>absurd ho (zaM _),fun t n ht=>?_,fun t q c z o _ _ ho=>absurd ho (zaM _),fun t t' q c z c' z' tC ew _ _=>?_⟩,fun u=>?_,hn,hd⟩
 ·show(if q=b then _ else B.M.G q o)=some v
  rw[if_neg (by have:=(hGb q o v hq).1;omega)]
  exact hq
 ·rw [lL q hq]
  exact e.kept q hq (fun o ho=>by rw[hB]at ho;exact absurd ho (zaM _)) (fun t c z ew=>by rw[hB]at ew;obtain⟨n,jI⟩:=ew;simp at jI)
 ·cases hb;exact .inr r9
 ·by_cases hq:q=b
  ·subst hq;exact .inl r9
  ·exact absurd (show(if q=b then _ else B.M.G q o)=B.M.G q o from if_neg hq) eF
 ·have pj:(if q=b then(if o<l.length then(l[o]?).map fun x=>Value.string ⟨⟨x⟩⟩else none)else B.M.G q o)=some v:=hq
  by_cases hqb:q=b
  ·rw [if_pos hqb]at pj
   obtain⟨hj,rfl⟩:=hE o v pj
   rw[hqb]
   exact⟨AY o hj,rfl⟩
  ·rw [if_neg hqb]at pj
   exact(hGb q o v pj).2
 ·match t with
  | 0=>
   simp at ht
   subst ht
   refine .inr ⟨b,cap,1,vs,T,rfl,eD,by simp[zs,dz],hl,fun off ho=>?_,fun h=>by cases h⟩
   show(if b=b then(if off<l.length then _ else none)else B.M.G b off)=none
   rw[if_pos rfl,if_neg (by simp[zs]at ho;omega)]
  |t+1=>simp at ht
 ·obtain⟨n1,h1⟩:=tC
  obtain⟨n2,h2⟩:=ew
  have a1:=(zai.1 h1).1
  have a2:=(zai.1 h2).1
  simp at a1 a2
  omega
 ·simp only [Tm.get]
  split
  ·rename_i hku
   subst hku
   rw[Pq]
   have:=RD.slice (M:=M') (s:=⟨[],[some l.length]⟩) (.tok 0) 1 (l.map encStr) b 0 cap (by simpa using hl) (fun row hr=>by
    obtain⟨x,_,rfl⟩:=zbh.1 hr;rfl) (fun i row j d e1 e2=>?_) (fun i row j d u e1 e2 eu=>?_) ⟨by simp,fun n jI=>by
    simp at jI
    subst jI
    exact⟨by simp,fun _=> .inr ⟨b,rfl,rfl⟩⟩⟩
   ·simpa using this
   ·rw [zat]at e1
    cases yW:l[i]? with
    |none=>rw[yW]at e1;cases e1
    |some x=>
     have px:=(zai.1 yW).1
     rw[yW]at e1
     cases e1
     have hj:j=0:=by cases j with|zero=>rfl|succ j=>simp[encStr]at e2
     subst hj
     refine⟨.string ⟨⟨x⟩⟩, ?_⟩
     show(if b=b then(if 0+(i*1+0)<l.length then _ else none)else _)=_
     rw[if_pos rfl,if_pos (by omega)]
     simp[yW]
   ·rw [zat]at e1
    cases yW:l[i]? with
    |none=>rw[yW]at e1;cases e1
    |some x=>
     have px:=(zai.1 yW).1
     rw[yW]at e1
     cases e1
     have hj:j=0:=by cases j with|zero=>rfl|succ j=>simp[encStr]at e2
     subst hj
     have LF:(if b=b then(if 0+(i*1+0)<l.length then(l[0+(i*1+0)]?).map fun x=>Value.string ⟨⟨x⟩⟩else none)else B.M.G b (0+(i*1+0)))=some u:=eu
     rw[if_pos rfl,if_pos (by omega)]at LF
     simp[yW]at LF
     subst LF
     simp[encStr]at e2
     subst e2
     exact .str x
  ·exact .junk _
theorem LX (hB:B.s = ⟨[],[]⟩) {tm:Tm} {s:St} {act td:Act} {w:World} (h:Holds B nt tm s act w) {k:Nat} (Pq:td.tmps.getD k Go.undef = .slice none 0 0∨∃ b q,td.tmps.getD k Go.undef = .slice (some ⟨b,q,none⟩) 0 0) (hn:td.tmps.size=nt) (hd:td.defers = []) :
 Holds B nt [(k, .slice (.tok 0) 1 (([] : List aB).map encStr))] ⟨[],[some 0]⟩ td w:=by
 obtain⟨M,e,r,hr,_,_⟩:=h
 let M':Map:=⟨B.M.G,B.M.loc,fun _=>none⟩
 refine⟨M',⟨⟨fun q o v hq=>hq,by simp[hB],fun o ho=> .refl _,by rw[hB];exact zau _,fun t n' ht _=>by rw[hB]at ht;exact absurd ht (zaM _)⟩,fun q hq _ _=>?_,fun o _ h2=>absurd h2 (zaM _),fun t q c z _ hb=>(by cases hb),fun q o eF=>absurd rfl eF,e.size,e.os,e.tape,e.output⟩,
  ⟨fun q o v hq=>r.comm q o v (e.le.G q o v hq),fun o ds ho=>by simp at ho,fun o ho=>absurd ho (zaM _),fun o o' ho=>absurd ho (zaM _),fun t n ht=>?_,fun t q c z o _ _ ho=>absurd ho (zaM _),fun t t' q c z c' z' tC ew h1 _=>by cases h1⟩,fun u=>?_,hn,hd⟩
 ·exact e.kept q hq (fun o ho=>by rw[hB]at ho;exact absurd ho (zaM _)) (fun t c z ew=>by rw[hB]at ew;obtain⟨n,jI⟩:=ew;simp at jI)
 ·match t with
  | 0=>simp at ht;subst ht;exact .inl ⟨rfl,rfl⟩
  |t+1=>simp at ht
 ·simp only [Tm.get]
  split
  ·rename_i hku
   subst hku
   have mA : ∀ base,iM M' ⟨[],[some 0]⟩ (.tok 0) 1 0 base 0:=fun base=>⟨by simp,fun n jI=>by
    simp at jI
    subst jI
    exact⟨zaj _,fun _=> .inl ⟨rfl,rfl,fun h=>by cases h⟩⟩⟩
   rcases Pq with h|⟨b,q,h⟩
   ·rw[h];exact .jX _ _ 0 rfl (mA none)
   ·rw[h];exact .slice (.tok 0) 1 [] b q 0 (zaj _) (by simp) (by simp) (by simp) (mA _)
  ·exact .junk _
theorem Jn {α:Type} [Inhabited α] (enc:α→Value) (d:Array α) (c:Array Value) (j:Nat):(Sort.putCells enc 0 d c)[j]? = if j<d.size then(c[j]?).map fun _=>enc d[j]! else c[j]? :=by
 simp only[Sort.putCells,Array.getElem?_mapIdx]
 cases h:c[j]? with
 |none=>simp
 |some x=>by_cases hj:j<d.size<;>simp[hj]
theorem Gh {w:World} {b n cap:Nat} {vs:Array Value} {T:TypeId} (eD:w.heap[b]? = some (.cells vs T (0,0))) (dz:vs.size=cap) (l:List aB) (hl:l.length≤cap) (os:Array Obj) :
 (∀ q,q≠b→q<w.heap.size→(Sort.grow (Sort.putRow Go.Proofs.encStr (Sort.ahead w n) b 0 l.toArray) os).heap[q]? = w.heap[q]?)∧
 (Sort.grow (Sort.putRow Go.Proofs.encStr (Sort.ahead w n) b 0 l.toArray) os).heap[b]? = some (.cells (Sort.putCells Go.Proofs.encStr 0 l.toArray vs) T (0,0))∧w.heap.size≤(Sort.grow (Sort.putRow Go.Proofs.encStr (Sort.ahead w n) b 0 l.toArray) os).heap.size∧
 (Sort.putCells Go.Proofs.encStr 0 l.toArray vs).size=cap∧∀ j (hj:j<l.length),(Sort.putCells Go.Proofs.encStr 0 l.toArray vs)[j]? = some (.string ⟨⟨l[j]⟩⟩):=by
 have hb:b<w.heap.size:=(zaS.1 eD).1
 refine⟨fun q hq hC=>?_, ?_, ?_, ?_,fun j hj=>?_⟩
 ·simp only [Sort.grow,Sort.putRow,Sort.mapBlock,Sort.ahead]
  rw[za1 (by simpa using hC),zbD]
  simp[Ne.symm hq]
 ·simp only [Sort.grow,Sort.putRow,Sort.mapBlock,Sort.ahead]
  rw[za1 (by simpa using hb),zbD]
  simp[eD,Sort.onCells]
 ·simp[Sort.grow,Sort.putRow,Sort.mapBlock,Sort.ahead]
 ·simp[Sort.putCells,dz]
 ·rw [Jn]
  have h1:j<l.toArray.size:=by simpa using hj
  have h2:vs[j]? = some vs[j]:=zbq (by omega)
  rw[if_pos h1,h2]
  simp[hj]
def l8 (l:List aB):List aB:=l.mergeSort fun x y=>decide (x≤y)
theorem Jo {act:Act} {b:Nat} {v:Value} {u:Nat} (h:u≠b):(act.put (some b) v).tmps.getD u Go.undef=act.tmps.getD u Go.undef:=by
 simp only[Act.put,zbk]
 rw[zbw (fun e=>h e.symm)]
theorem Gi {act:Act} {b:Nat} {v:Value} (h:b<act.tmps.size):(act.put (some b) v).tmps.getD b Go.undef=v:=by
 simp only[Act.put,zbk]
 simp[h]
theorem Sem.sort (hB:B.s = ⟨[],[]⟩) {a k b t:Nat} {l:List aB} {is:List AI} {Q:Exit→Tm→St→Prop} {tm:Tm} {s:St} (hak:a≠k) (hbk:b≠k) (sJ:a≠b)
 (hk:tm.get k = .slice (.tok t) 1 (l.map encStr)) (ht:s.aE[t]? = some (some l.length)) (hl:l.length<4611686018427387904)
 (h:iR Tryz.prog is (Q .normal) [(k, .slice (.tok 0) 1 ((l8 l).map encStr))] ⟨[],[some l.length]⟩) :
 Sem Tryz.prog B nt (.run (.op (some a) none (.mv (.s k)):: .call (some b) none 126 [.s a]::is)) Q tm s:=by
 refine Sem.acJ fun act w hh=>?_
 have sr:(tm.put (some a) (tm.get k)).get k = .slice (.tok t) 1 (l.map encStr):=by rw[Tm.k8,if_neg (by simpa using hak)];exact hk
 have Jp:(tm.put (some a) (tm.get k)).get a = .slice (.tok t) 1 (l.map encStr):=by rw[Tm.k8,if_pos rfl];exact hk
 have Ao:(l8 l).length=l.length:=List.length_mergeSort l
 have hn:(act.put (some b) (.tuple #[])).tmps.size=nt:=by obtain⟨_,_,_,_,h1,_⟩:=hh;simpa[Act.put]using h1
 have hd:(act.put (some b) (.tuple #[])).defers = []:=by obtain⟨_,_,_,_,_,h1⟩:=hh;simpa[Act.put]using h1
 have dz:(act.tmps).size=nt:=by obtain⟨_,_,_,_,h1,_⟩:=hh;exact h1
 rcases Gg hB hh ht Jp with ⟨rfl,hv⟩|⟨b',cap,vs,T,hv,sV,eD,oB,r9,lP⟩
 ·rw [show l8 [] = [] by simp [l8]]at h
  have call : ∀ p,act.tmps.getD a Go.undef = .slice p 0 0→Calls Tryz.prog 126 #[act.tmps.getD a Go.undef] w fun e w'=>∃ v,e = .returned v∧∃ cb s',Holds B nt cb s' (act.put (some b) v) w'∧iR Tryz.prog is (Q .normal) cb s':=by
   intro p hp
   rw[hp]
   refine(Tryz.slices_Sort_string_none p 0 w).mono ?_
   rintro e w' ⟨rfl,rfl⟩
   refine⟨_,rfl,_,_,LX hB hh (k:=k) ?_ hn hd,h⟩
   rw[Jo (Ne.symm hbk)]
   exact hv k sr
  rcases hv a Jp with h1|⟨b',q,h1⟩
  ·exact call _ h1
  ·exact call _ h1
 ·rw [hv a Jp]
  have hC:b'<w.heap.size:=(zaS.1 eD).1
  refine(Tryz.slices_Sort_string b' 0 cap l w (fun j hj=>?_) hC hl).mono ?_
  ·have Sp:j<l.length:=by simpa using hj
   refine⟨?_,by simp[World.frozen?,eD]⟩
   rw[za3,ju eD,lP j Sp]
   simp[Sp]
  ·rintro e w' ⟨rfl,n,os,rfl⟩
   obtain⟨p1,p2,p3,p4,p5⟩:=Gh (n:=n) eD oB (l8 l) (by omega) os
   have hH:=Jm hB hh (td:=act.put (some b) (.tuple #[])) (l:=l8 l) (k:=k) p4 r9 (fun q hq=>p1 q (by omega) (by obtain⟨M,e,_⟩:=hh;exact Nat.lt_of_lt_of_le hq e.size)) p2 p3 rfl rfl rfl (by omega) p5 (by rw[Jo (Ne.symm hbk),hv k sr,Ao]) hn hd
   rw[Ao]at hH
   exact⟨_,rfl,_,_,hH,h⟩
theorem K5 (l:List aB):(Lib.compact l).length≤l.length:=by
 unfold Lib.compact Lib.compactUpTo
 rw[zaC]
 exact zaN (List.length_filter_le _ _) (by simp)
theorem Sem.compact (hB:B.s = ⟨[],[]⟩) {a k b t:Nat} {l:List aB} {is:List AI} {Q:Exit→Tm→St→Prop} {tm:Tm} {s:St} (zc:b<nt)
 (hk:tm.get k = .slice (.tok t) 1 (l.map encStr)) (ht:s.aE[t]? = some (some l.length)) (hl:l.length<4611686018427387904)
 (h:iR Tryz.prog is (Q .normal) [(b, .slice (.tok 0) 1 ((Lib.compact l).map encStr))] ⟨[],[some (Lib.compact l).length]⟩) :
 Sem Tryz.prog B nt (.run (.op (some a) none (.mv (.s k)):: .call (some b) none 127 [.s a]::is)) Q tm s:=by
 refine Sem.acJ fun act w hh=>?_
 have Jp:(tm.put (some a) (tm.get k)).get a = .slice (.tok t) 1 (l.map encStr):=by rw[Tm.k8,if_pos rfl];exact hk
 have dz:(act.tmps).size=nt:=by obtain⟨_,_,_,_,h1,_⟩:=hh;exact h1
 have hn : ∀ v,(act.put (some b) v).tmps.size=nt:=fun v=>by simpa[Act.put]using dz
 have hd : ∀ v,(act.put (some b) v).defers = []:=by obtain⟨_,_,_,_,_,h1⟩:=hh;intro v;simpa[Act.put]using h1
 rcases Gg hB hh ht Jp with ⟨rfl,hv⟩|⟨b',cap,vs,T,hv,sV,eD,oB,r9,lP⟩
 ·rw [show Lib.compact ([] : List aB) = []from rfl]at h
  have call : ∀ p,act.tmps.getD a Go.undef = .slice p 0 0→(p=none∨∃ b q,p=some ⟨b,q,none⟩)→Calls Tryz.prog 127 #[act.tmps.getD a Go.undef] w fun e w'=>∃ v,e = .returned v∧∃ cb s',Holds B nt cb s' (act.put (some b) v) w'∧iR Tryz.prog is (Q .normal) cb s':=by
   intro p hp hq
   rw[hp]
   refine(Tryz.slices_Compact_string_empty p 0 w).mono ?_
   rintro e w' ⟨rfl,rfl⟩
   refine⟨_,rfl,_,_,LX hB hh (k:=b) ?_ (hn _) (hd _),h⟩
   rw[Gi (by omega)]
   rcases hq with rfl|⟨x,y,rfl⟩
   ·exact .inl rfl
   ·exact .inr ⟨x,y,rfl⟩
  rcases hv a Jp with h1|⟨b',q,h1⟩
  ·exact call _ h1 (.inl rfl)
  ·exact call _ h1 (.inr ⟨b',q,rfl⟩)
 ·rw [hv a Jp]
  have w9:(Lib.compact l).length≤l.length:=K5 l
  refine(Tryz.slices_Compact_string b' 0 cap l w (fun j hj=>?_) (by omega) sV).mono ?_
  ·have Sp:j<l.length:=by simpa using hj
   refine⟨?_,by simp[World.frozen?,eD]⟩
   rw[za3,ju eD,lP j Sp]
   simp[Sp]
  ·rintro e w' ⟨rfl,q,rfl⟩
   obtain⟨p1,p2,p3,p4,p5⟩:=Gh (n:=q) eD oB (Lib.compact l++List.replicate (l.length - (Lib.compact l).length) []) (by simp;omega) #[]
   rw[Sort.grow_empty]at p1 p2 p3
   have hH:=Jm hB hh (td:=act.put (some b) (.slice (some ⟨b',0,none⟩) (Lib.compact l).length cap)) (l:=Lib.compact l) (k:=b) p4 r9 (fun q hq=>p1 q (by omega) (by obtain⟨M,e,_⟩:=hh;exact Nat.lt_of_lt_of_le hq e.size)) p2 p3 rfl rfl rfl (by omega)
    (fun j hj=>by
     have:=p5 j (by simp;omega)
     rw[List.getElem_append_left hj]at this
     exact this) (Gi (by omega)) (hn _) (hd _)
   exact⟨_,rfl,_,_,hH,h⟩
end
end Go.Abs
namespace Go.Abs
theorem D0 {a b:UInt8} : a<b↔a.toNat<b.toNat:=UInt8.lt_iff_toNat_lt
theorem xL : ∀ a:aB,bytesLess a a=false
 | []=>rfl
 |x::a=>by
  show Go.Op.bytesLess (x::a) (x::a)=false
  have h:=xL a
  have h:Go.Op.bytesLess a a=false:=h
  simp[Go.Op.bytesLess,h]
theorem xM : ∀ a b:aB,bytesLess a b=true∨a=b∨bytesLess b a=true
 | [],[]=> .inr (.inl rfl)
 | [],y::b=> .inl rfl
 |x::a,[]=> .inr (.inr rfl)
 | x::a,y::b=>by
  show Go.Op.bytesLess (x::a) (y::b)=true∨_∨Go.Op.bytesLess (y::b) (x::a)=true
  have h:Go.Op.bytesLess a b=true∨a=b∨Go.Op.bytesLess b a=true:=xM a b
  simp only[Go.Op.bytesLess,zay,zaq,decide_eq_true_eq,beq_iff_eq,List.cons.injEq]
  by_cases e:x=y
  ·subst e
   rcases h with h|h|h
   ·exact .inl (.inr ⟨rfl,h⟩)
   ·exact .inr (.inl ⟨rfl,h⟩)
   ·exact .inr (.inr (.inr ⟨rfl,h⟩))
  ·have:x.toNat≠y.toNat:=fun h=>e (UInt8.toNat_inj.1 h)
   rcases Nat.lt_or_gt_of_ne this with h|h
   ·exact .inl (.inl (D0.2 h))
   ·exact .inr (.inr (.inl (D0.2 h)))
theorem D1 : ∀ a b c:aB,bytesLess a b=true→bytesLess b c=true→bytesLess a c=true
 |a,b,[],h1,h2=>by cases b<;>cases h2
 |a,[],z::c,h1,h2=>by cases a<;>cases h1
 | [],y::b,z::c,h1,h2=>rfl
 | x::a,y::b,z::c,h1,h2=>by
  have h1:Go.Op.bytesLess (x::a) (y::b)=true:=h1
  have h2:Go.Op.bytesLess (y::b) (z::c)=true:=h2
  show Go.Op.bytesLess (x::a) (z::c)=true
  simp only[Go.Op.bytesLess,zay,zaq,decide_eq_true_eq,beq_iff_eq]at h1 h2 ⊢
  rcases h1 with e1|⟨i1,e1⟩
  ·rcases h2 with e2 | ⟨i2,e2⟩
   ·exact .inl (D0.2 (Nat.lt_trans (D0.1 e1) (D0.1 e2)))
   ·exact .inl (i2 ▸ e1)
  ·rcases h2 with e2 | ⟨i2,e2⟩
   ·exact .inl (i1 ▸ e2)
   ·exact .inr ⟨i1.trans i2,D1 a b c e1 e2⟩
def As (l:List aB):Prop:=l.Pairwise fun a b=>bytesLess a b=true
theorem wG : ∀ {a b:List aB},As a→As b→(∀ x,x∈a↔x∈b)→a=b
 | [],[],_,_,_=>rfl
 | [],y::b,_,_,h=>absurd ((h y).2 zaE) (by simp)
 |x::a,[],_,_,h=>absurd ((h x).1 zaE) (by simp)
 | x::a,y::b,h1,h2,h=>by
  obtain⟨g1,g2⟩:=List.pairwise_cons.1 h1
  obtain⟨g3,g4⟩:=List.pairwise_cons.1 h2
  have e:x=y:=by
   rcases zaw.1 ((h x).1 zaE)with e|m
   ·exact e
   ·rcases zaw.1 ((h y).2 zaE)with e | m'
    ·exact e.symm
    ·have:=D1 _ _ _ (g3 x m) (g1 y m');rw[xL]at this;cases this
  subst e
  rw[wG g2 g4 fun z=>?_]
  constructor
  ·intro m
   rcases zaw.1 ((h z).1 (zaA _ m))with e|m'
   ·subst e;have:=g1 z m;rw[xL]at this;cases this
   ·exact m'
  ·intro m
   rcases zaw.1 ((h z).2 (zaA _ m))with e|m'
   ·subst e;have:=g3 z m;rw[xL]at this;cases this
   ·exact m'
theorem tS (out:List aB) : ∀ (l:List aB) (c:aB) (a:Bool),
 let q:=ki out l c a
 (q.2=false↔a=false∧∀ x∈l,x∈out)∧(q.2=true→((a=true∧q.1=c)∨(q.1∈l∧q.1∉out))∧(a=true→bytesLess c q.1=false)∧∀ x∈l,x∉out→bytesLess x q.1=false)
 | [],c,a=>by
  simp only[ki]
  refine⟨by simp,fun h=>⟨.inl ⟨h,by trivial⟩,fun _=>xL c,fun x m=>(by cases m)⟩⟩
 | s::l,c,a=>by
  simp only[ki]
  by_cases h1:dq out s=true
  ·have m:=(fS _ _).1 h1
   simp only[h1,zan,zaO,zaa,if_false]
   obtain⟨k1,k2⟩:=tS out l c a
   refine⟨k1.trans ⟨fun h=>⟨h.1,fun x hx=>?_⟩,fun h=>⟨h.1,fun x hx=>h.2 x (zaA _ hx)⟩⟩,fun h=>?_⟩
   ·rcases zaw.1 hx with rfl | hx
    ·exact m
    ·exact h.2 x hx
   ·obtain⟨g1,g2,g3⟩:=k2 h
    refine⟨g1.imp_right fun h=>⟨zaA _ h.1,h.2⟩,g2,fun x hx hn=>?_⟩
    rcases zaw.1 hx with rfl|hx
    ·exact absurd m hn
    ·exact g3 x hx hn
  ·have m:s∉out:=fun m=>h1 ((fS _ _).2 m)
   have pw:dq out s=false:=by simpa using h1
   by_cases h2:(!a ||bytesLess s c)=true
   ·simp only [pw,h2,zao,zbJ,if_true]
    obtain⟨k1,k2⟩:=tS out l s true
    refine⟨⟨fun h=>absurd (k1.1 h).1 (by simp),fun h=>absurd (h.2 s zaE) m⟩,fun h=>?_⟩
    obtain⟨g1,g2,g3⟩:=k2 h
    have g4:=g2 rfl
    refine⟨.inr ?_,fun ha=>?_,fun x hx hn=>?_⟩
    ·rcases g1 with ⟨_,e⟩ | g1
     ·rw[e];exact⟨zaE,m⟩
     ·exact⟨zaA _ g1.1,g1.2⟩
    ·have h3:bytesLess s c=true:=by simpa [ha]using h2
     cases hh:bytesLess c (ki out l s true).1
     ·rfl
     ·have:=D1 _ _ _ h3 hh;rw[g4]at this;cases this
    ·rcases zaw.1 hx with rfl | hx
     ·exact g4
     ·exact g3 x hx hn
   ·have sx:(!a || bytesLess s c)=false:=by simpa using h2
    have ha:a=true:=by cases a<;>simp_all
    have h3:bytesLess s c=false:=by cases a<;>simp_all
    simp only[pw,sx,zao,zbf,zaa,if_false]
    obtain⟨k1,k2⟩:=tS out l c a
    refine⟨⟨fun h=>absurd (k1.1 h).1 (by simp[ha]),fun h=>absurd h.1 (by simp[ha])⟩,fun h=>?_⟩
    obtain⟨g1,g2,g3⟩:=k2 h
    refine⟨g1.imp_right fun h=>⟨zaA _ h.1,h.2⟩,g2,fun x hx hn=>?_⟩
    rcases zaw.1 hx with rfl|hx
    ·cases hh:bytesLess x (ki out l c a).1
     ·rfl
     ·have g4:=g2 ha
      rcases xM x c with e|e|e
      ·rw[h3]at e;cases e
      ·subst e;rw[g4]at hh;cases hh
      ·have:=D1 _ _ _ e hh;rw[g4]at this;cases this
    ·exact g3 x hx hn
theorem wH (l:List aB) : ∀ (n:Nat) (out:List aB),As out→(∀ x∈out,x∈l)→(∀ x∈out,∀ y∈l,y∉out→bytesLess x y=true)→
 As (lJ l n out)∧(∀ x∈lJ l n out,x∈l)∧(∀ x∈out,x∈lJ l n out)∧((∀ x∈l,x∈lJ l n out)∨(lJ l n out).length=out.length+n)
 | 0,out,h1,h2,h3=>⟨h1,h2,fun x m=>m, .inr rfl⟩
 | n+1,out,h1,h2,h3=>by
  simp only[lJ,Jl]
  obtain⟨k1,k2⟩:=tS out l [] false
  cases hq:(ki out l [] false).2
  ·simp only [zaa,if_false]
   obtain⟨g1,g2,g3,g4⟩:=wH l n out h1 h2 h3
   exact⟨g1,g2,g3, .inl fun x m=>g3 x ((k1.1 hq).2 x m)⟩
  ·simp only [if_true]
   obtain⟨g1,_,g3⟩:=k2 hq
   have g1:(ki out l [] false).1∈l∧(ki out l [] false).1∉out:=by
    rcases g1 with ⟨h,_⟩|g1
    ·cases h
    ·exact g1
   generalize (ki out l [] false).1=c at g1 g3
   obtain⟨r1,r2,r3,r4⟩:=wH l n (out++ [c])
    (by
     refine List.pairwise_append.2 ⟨h1,by simp,fun x hx y hy=>?_⟩
     have:y=c:=by simpa using hy
     subst this
     exact h3 x hx y g1.1 g1.2)
    (fun x hx=>by
     rcases zaB.1 hx with hx|hx
     ·exact h2 x hx
     ·have:x=c:=by simpa using hx
      subst this;exact g1.1)
    (fun x hx y hy hn=>by
     have hyo:y∉out:=fun m=>hn (zbb _ m)
     have hyc:y≠c:=fun e=>hn (zbs _ (by simp[e]))
     rcases zaB.1 hx with hx|hx
     ·exact h3 x hx y hy hyo
     ·have:x=c:=by simpa using hx
      subst this
      rcases xM x y with h|h|h
      ·exact h
      ·exact absurd h.symm hyc
      ·rw[g3 y hy hyo]at h;cases h)
   refine⟨r1,r2,fun x m=>r3 x (zbb _ m),r4.imp_right fun h=>?_⟩
   rw[h];simp;omega
theorem vO : ∀ (a l:List aB),a.Nodup→(∀ x∈a,x∈l)→a.length≤l.length
 | [],l,_,_=>zau _
 |x::a,l,h,hm=>by
  obtain⟨h1,h2⟩:=List.nodup_cons.1 h
  have m:=hm x zaE
  have:=vO a (l.erase x) h2 fun y hy=>(List.mem_erase_of_ne (fun e=>h1 (by rw[← e];exact hy))).2 (hm y (zaA _ hy))
  rw[List.length_erase_of_mem m]at this
  have:0<l.length:=List.length_pos_of_mem m
  simp only[zal];omega
theorem qX {l:List aB} (h:As l):l.Nodup:=h.imp fun {a b} h e=>by subst e;rw[xL]at h;cases h
theorem kV (l:List aB):As (gG l)∧∀ x,x∈gG l↔x∈l:=by
 obtain⟨h1,h2,h3,h4⟩:=wH l l.length [] List.Pairwise.nil (fun x m=>(by cases m)) (fun x m=>(by cases m))
 refine⟨h1,fun x=>⟨h2 x,fun m=>?_⟩⟩
 rcases h4 with h4|h4
 ·exact h4 x m
 ·refine Classical.byContradiction fun hn=> ?_
  have:=vO (x::lJ l l.length []) l (List.nodup_cons.2 ⟨hn,qX h1⟩) fun y hy=>by
   rcases zaw.1 hy with rfl|hy
   ·exact m
   ·exact h2 y hy
  simp only[zal,h4,zax]at this
  omega
theorem K6 (zs:List aB) (hs:zs.Pairwise fun a b=>bytesLess b a=false) : ∀ m,m≤zs.length→
 As (Lib.compactUpTo zs.toArray m)∧(∀ x,x∈Lib.compactUpTo zs.toArray m↔x∈zs.take m):=by
 intro m
 induction m with
 |zero=>intro _;exact⟨by simp[Lib.compactUpTo,As],fun x=>by simp[Lib.compactUpTo]⟩
 | succ m ih=>
  intro hm
  obtain⟨h1,h2⟩:=ih (by omega)
  have hz:zs[m]? = some zs[m]:=zap (by omega)
  have e1:zs.toArray[m]! = zs[m]:=by simp[hm,Nat.lt_of_succ_le hm]
  have et:zs.take (m+1)=zs.take m++ [zs[m]]:=by rw[List.take_add_one,hz];rfl
  rw[Lib.compactUpTo_succ,e1,et]
  by_cases hk:Lib.keeps zs.toArray m=true
  ·rw [if_pos hk]
   refine⟨List.pairwise_append.2 ⟨h1,by simp,fun x hx y hy=>?_⟩,fun x=>by rw[zaB,zaB,h2]⟩
   have hy:y=zs[m]:=by simpa using hy
   subst hy
   have hx:=(h2 x).1 hx
   simp only[Lib.keeps,decide_eq_true_eq]at hk
   rcases hk with rfl|hk
   ·simp at hx
   ·have Jd:m - 1<zs.length:=by omega
    have e2:zs.toArray[m - 1]! = zs[m - 1]:=by simp[Jd]
    rw[e1,e2]at hk
    have h0:0<m:=by
     cases m with
     |zero=>simp at hx
     |succ m=>omega
    have hle : ∀ i j (hi:i<zs.length) (hj:j<zs.length),i<j→bytesLess zs[j] zs[i] = false:=fun i j hi hj XF=>List.pairwise_iff_getElem.1 hs i j hi hj XF
    have g1:bytesLess zs[m] zs[m - 1] = false:=hle (m - 1) m Jd (by omega) (by omega)
    have g2:bytesLess zs[m - 1] zs[m] = true:=by
     rcases xM zs[m - 1] zs[m]with h|h|h
     ·exact h
     ·exact absurd h.symm hk
     ·rw[g1]at h;cases h
    obtain⟨i,hi,rfl⟩:=List.mem_iff_getElem.1 hx
    rw[zaL]at hi
    rw[List.getElem_take]
    by_cases lR:i=m - 1
    ·subst lR;exact g2
    ·have g3:=hle i (m - 1) (by omega) Jd (by omega)
     rcases xM zs[i] zs[m - 1]with h|h|h
     ·exact D1 _ _ _ h g2
     ·rw[h];exact g2
     ·rw[g3]at h;cases h
  ·rw [if_neg hk]
   simp only[zaJ]
   refine⟨h1,fun x=>?_⟩
   rw[h2]
   simp only[Lib.keeps,decide_eq_true_eq,not_or,ne_eq,Decidable.not_not]at hk
   obtain⟨k1,k2⟩:=hk
   have Jd:m - 1<zs.length:=by omega
   have e2:zs.toArray[m - 1]! = zs[m - 1]:=by simp[Jd]
   rw[e1,e2]at k2
   simp only[zaB,zbK]
   constructor
   ·exact .inl
   ·rintro(h | rfl)
    ·exact h
    ·rw [k2]
     exact List.mem_iff_getElem.2 ⟨m - 1,by rw[zaL];omega,by rw[List.getElem_take]⟩
theorem Gj (l:List aB):(l8 l).Pairwise fun a b=>bytesLess b a=false:=by
 have h:=List.pairwise_mergeSort (le:=fun x y:aB=>decide (x≤y)) (fun a b c h1 h2=>?_) (fun a b=>?_) l
 ·refine h.imp fun {a b} h=> ?_
  rw[decide_eq_true_eq]at h
  show Go.Op.bytesLess b a=false
  rw[Go.Proofs.bytesLess_eq]
  simpa using h
 ·rw [decide_eq_true_eq]at h1 h2 ⊢
  exact List.le_trans h1 h2
 ·have:=List.le_total a b
  simpa using this
theorem Au (l:List aB):Lib.compact (l8 l)=gG l:=by
 obtain⟨h1,h2⟩:=K6 (l8 l) (Gj l) (l8 l).length (zaj _)
 obtain⟨h3,h4⟩:=kV l
 refine wG h1 h3 fun x=>?_
 rw[h4]
 refine(h2 x).trans ?_
 rw[List.take_length]
 exact(List.mergeSort_perm _ _).mem_iff
set_option maxRecDepth 8000
open Go.Proofs
def jq:List Sm→List aB
 | []=> []
 |v::l=>if v.kind==4 then v.proc::jq l else jq l
theorem wI : ∀ l:List Sm,(jq l).length≤l.length
 | []=>zaj _
 |v::l=>by
  simp only[jq]
  have:=wI l
  split<;>simp<;>omega
def Pc.calls (f:Pc):List aB:=gG (jq (Sm.du f.body))
theorem Av {name:aB} : ∀ {l:List Pc} {k:Nat} {f:Pc},jm name l=some f→∃ j,l[j]? = some f∧mh (fun f:Pc=>f.name==name) (k:Int) l=((k+j:Nat):Int)
 | g::l,k,f,h=>by
  simp only[jm]at h
  cases e:(g.name==name)
  ·rw [e]at h
   simp only[zaa,if_false]at h
   obtain⟨j,h1,h2⟩:=Av (k:=k+1) h
   refine⟨j+1,by simpa using h1, ?_⟩
   simp only[mh,e,zaa,if_false]
   rw[show((k:Int)+1)=((k+1:Nat):Int)from rfl,h2]
   congr 1;omega
  ·rw [e]at h
   simp only[if_true,Option.some.injEq]at h
   exact⟨0,by simpa using h,by simp[mh,e]⟩
theorem ZL {p:Pg} (h:p.iK) {name:aB} {f:Pc} (hf:p.find name=some f) (s:St):aC Tryz.prog 165 [.dJ (iA p) 0, .str name] s (.slice .shared 1 (f.calls.map encStr)) s:=by
 refine aC.pure ?_ (by simp[D.bP,D.ok,yu]) (by simp only[D.ok,Tag.ok,da];rfl) s
 obtain⟨n7,nh,pz⟩:=h.procs
 obtain⟨j,hj,tr⟩:=Av (k:=0) hf
 have tr:p.at name=((j:Nat):Int):=by unfold Pg.at;simpa using tr
 have tE:=fun s=>RV (p:=p) (by omega) name s
 rw[tr]at tE
 obtain⟨it,oO,DX⟩:=VP hj (by omega)
 have Fc:it.length≤900000:=by
  have e:=congrArg List.length oO
  obtain⟨a,b,e',_,_,e3,e4⟩:=(qn p).2 j f hj
  have e5:=qo p
  have e6:=congrArg List.length e3
  rw[e4]at e5
  simp only[zaC,zak]at e e5 e6
  omega
 unfold S0
 obtain⟨fn,vC,tF⟩:=DD.h
 refine aC.intro ⟨fn,vC,tF⟩ (za8 rfl) fun B hB=>?_
 generalize hQ:gZ (⟨[],[]⟩:St).aw.length (⟨[],[]⟩:St).aE.length _ _ (⟨[],[]⟩:St)=Q
 have⟨hC,hE,hF,hS⟩:=bt
 refine Sem.kM ?_
 repeat' (first
 |simp only[go_sem,hC,hE,hF,hS]
 |(with_reducible refine ay hQ ?_;exact aK))
 refine Sem.kM ?_
 repeat' (first
 |simp only[go_sem,hC,hE,hF,hS]
 |(with_reducible refine ay hQ ?_;exact aK))
 refine Sem.kM ?_
 repeat' (first
 |simp only[go_sem,hC,hE,hF,hS]
 |(with_reducible refine CU (tE _) ?_)
 |(with_reducible refine CU (DX _) ?_)
 |(with_reducible refine ay hQ ?_;exact aK))
 refine aV.gY 5 1 rfl ?_
 simp only[go_sem,hC,hE,hF,hS]
 obtain⟨R,hR⟩ : ∃ R,R=jq (Sm.du f.body):=⟨_,rfl⟩
 have Yj:R.length≤900000:=by rw[hR, ← oO];have:=wI (it.map Im.s);rw[zaC]at this;omega
 refine b8 0 1 (aV.ind (ι:=List Im×Nat×List aB×Nat) (fun i=>it.drop i.2.1=i.1∧i.2.2.1++jq (i.1.map Im.s)=R∧i.2.2.2=i.2.2.1.length) (fun i=>i.1.length)
  (fun i=> [(5, .slice (.tok 0) 1 (i.2.2.1.map encStr)),(12, .slice .shared 17 (it.map eO)),(13, .int .i64 (it.length:Int)),(14, .int .i64 (i.2.1:Int))]) (fun i=>⟨[],[some i.2.2.2]⟩) ?_ (it,0,[],0) ⟨rfl,by rw[hR,oO];rfl,rfl⟩)
 rintro⟨rest,k,out,n⟩ ⟨h1,h2,h3⟩ IH
 dsimp only at h1 h2 h3
 subst h3
 have ow:out.length≤900000:=by have:=congrArg List.length h2;rw[zak]at this;omega
 cases rest with
 | cons a rest=>
  obtain⟨hE,g2,hC,g4⟩:=drop_cons h1
  have bm:k<4611686018427387904:=by omega
  have hF:(out.length+1)*17≤bh:=by unfold bh;omega
  simp only[zaf,jq]at h2
  rcases zad (a.s.kind==4)with c1|c1
  ·simp only [c1,if_true]at h2
   repeat' (first
 |simp only[go_sem,hC,hE,hF,hS,c1]
 | (with_reducible refine ay hQ ?_;exact aK))
   refine b9 0 1 ?_ ?_ (IH (rest,k+1,out++ [a.s.proc],out.length+1) ⟨g2,by rw[← h2];simp,by simp⟩ (zac _))
   ·(simp only[go_sem,hC,hE,hF,hS,az bm,zag,zaf,zah,encStr];try exact aT)
   ·(simp only[go_sem,hC,hE,hF,hS,az bm,zag,zaf,zah,encStr];try exact aT)
  ·simp only [c1,zaa,if_false]at h2
   repeat' (first
 |simp only[go_sem,hC,hE,hF,hS,c1]
 | (with_reducible refine ay hQ ?_;exact aK))
   refine b9 0 1 ?_ ?_ (IH (rest,k+1,out,_) ⟨g2,h2,rfl⟩ (zac _))
   ·(simp only[go_sem,hC,hE,hF,hS,az bm];try exact aT)
   ·(simp only[go_sem,hC,hE,hF,hS,az bm];try exact aT)
 |nil=>
  have hC:=drop_nil h1
  simp only[zah,jq,zaJ]at h2
  subst h2
  have Ao:(l8 out).length=out.length:=List.length_mergeSort out
  repeat' (first
 |simp only[go_sem,hC,hE,hF,hS]
 |(with_reducible refine ay hQ ?_;exact aK))
  refine Sem.seq (Sem.sort (k:=5) (t:=0) (l:=out) hB (by decide) (by decide) (by decide) rfl rfl (by omega) ?_)
  show Sem _ _ _ _ _ _ _
  refine Sem.seq (Sem.compact (k:=5) (t:=0) (l:=l8 out) hB (by decide) rfl (by rw[Ao];rfl) (by rw[Ao];omega) ?_)
  rw[Au]
  have Wr:f.calls=gG out:=by unfold Pc.calls;rw[hR]
  rw[Wr]at hQ
  refine iz (ac:= .ret) (Q:=Q) (tm:= [(32, .slice (.tok 0) 1 ((gG out).map encStr)),(4, .slice (.tok 0) 1 ((gG out).map encStr))]) (s:=⟨[],[some (gG out).length]⟩) ?_
  repeat' (first
 |simp only[go_sem,hC,hE,hF,hS]
 |(with_reducible refine ay hQ ?_;exact aK))
theorem Ws {p:Pg} (h:p.iK) (hb:p.may=true) {name:aB} {f:Pc} (hf:p.find name=some f) (s:St):aC Tryz.prog 215 [.agg (bQ p), .str name] s (.slice .shared 1 (f.calls.map encStr)) s:=by
 refine aC.pure ?_ (by simp[D.bP,D.ok,fH]) (by simp only[D.ok,Tag.ok,da];rfl) s
 obtain⟨n7,nh,pz⟩:=h.procs
 have qU:=fun s=>Bf (p:=p) (by omega) name s
 have mS:=(ml hf).1
 have wX:Sm.aQ f.body<4611686018427387000:=by have:=Pc.bX mS;simp only[Pc.size]at this;omega
 have iy:=fun s=>xJ (f:=f) wX s
 have oO:=(oR hb).1 f mS
 have Fc:f.flat.length≤201:=f.qd
 simp only[hf,jo,zbv,zbl]at qU
 obtain⟨R,hR⟩ : ∃ R,R=jq (Sm.du f.body):=⟨_,rfl⟩
 have Yj:R.length≤201:=by rw[hR, ← oO];have:=wI (f.flat.map It.s);rw[zaC]at this;omega
 have Wr:f.calls=gG R:=by unfold Pc.calls;rw[hR]
 rw[Wr]
 unfold S0
 refine aC.go EV.h rfl fun B Q hB hQ=>?_
 have⟨hC,hE,hF,hS⟩:=bt
 repeat' (first
 |simp only[go_sem,hC,hE,hF,hS]
 |(with_reducible refine CU (qU _) ?_)
 |(with_reducible refine CU (iy _) ?_)
 |(with_reducible refine ay hQ ?_;exact aK))
 refine aV.gY 7 1 rfl ?_
 simp only[go_sem,hC,hE,hF,hS]
 refine b8 0 1 (aV.ind (ι:=List It×Nat×List aB×Nat) (fun i=>f.flat.drop i.2.1=i.1∧i.2.2.1++jq (i.1.map It.s)=R∧i.2.2.2=i.2.2.1.length) (fun i=>i.1.length)
  (fun i=> [(7, .slice (.tok 0) 1 (i.2.2.1.map encStr)),(17, .slice .shared 16 (f.flat.map dX)),(18, .int .i64 (f.flat.length:Int)),(19, .int .i64 (i.2.1:Int))]) (fun i=>⟨[],[some i.2.2.2]⟩) ?_ (f.flat,0,[],0) ⟨rfl,by rw[hR,oO];rfl,rfl⟩)
 rintro⟨rest,k,out,n⟩ ⟨h1,h2,h3⟩ IH
 dsimp only at h1 h2 h3
 subst h3
 have ow:out.length≤201:=by have:=congrArg List.length h2;rw[zak]at this;omega
 cases rest with
 | cons a rest=>
  obtain⟨hE,g2,hC,g4⟩:=drop_cons h1
  have bm:k<4611686018427387904:=by omega
  have hF:(out.length+1)*17≤bh:=by unfold bh;omega
  simp only[zaf,jq]at h2
  rcases zad (a.s.kind==4)with c1|c1
  ·simp only [c1,if_true]at h2
   repeat' (first
 |simp only[go_sem,hC,hE,hF,hS,c1]
 | (with_reducible refine ay hQ ?_;exact aK))
   refine b9 0 1 ?_ ?_ (IH (rest,k+1,out++ [a.s.proc],out.length+1) ⟨g2,by rw[← h2];simp,by simp⟩ (zac _))
   ·(simp only[go_sem,hC,hE,hF,hS,az bm,zag,zaf,zah,encStr];try exact aT)
   ·(simp only[go_sem,hC,hE,hF,hS,az bm,zag,zaf,zah,encStr];try exact aT)
  ·simp only [c1,zaa,if_false]at h2
   repeat' (first
 |simp only[go_sem,hC,hE,hF,hS,c1]
 | (with_reducible refine ay hQ ?_;exact aK))
   refine b9 0 1 ?_ ?_ (IH (rest,k+1,out,_) ⟨g2,h2,rfl⟩ (zac _))
   ·(simp only[go_sem,hC,hE,hF,hS,az bm];try exact aT)
   ·(simp only[go_sem,hC,hE,hF,hS,az bm];try exact aT)
 |nil=>
  have hC:=drop_nil h1
  simp only[zah,jq,zaJ]at h2
  subst h2
  have Sq:=fun s=>Cu (l:=out) (by omega) (.tok 0) s
  repeat' (first
 |simp only[go_sem,hC,hE,hF,hS]
 |(with_reducible refine CU (Sq _) ?_)
 |(with_reducible refine ay hQ ?_;exact aK))
theorem Gk {name:aB} : ∀ {l:List Pc},name∈l.map (·.name)→∃ f,jm name l=some f
 | f::l,h=>by
  simp only[jm]
  cases e:(f.name==name)
  ·simp only [zaa,if_false]
   refine Gk ?_
   rcases zaw.1 h with h|h
   ·rw[h]at e;simp at e
   ·exact h
  ·exact⟨f,rfl⟩
theorem Gl {p:Pg} {f:Pc} {procs:List aB} : ∀ {l:List Sm},tc p f procs l=none→∀ v∈l,v.known p f procs=true
 | v::l,h,w,m=>by
  simp only[tc]at h
  split at h
  ·rename_i e
   rcases zaw.1 m with rfl|m
   ·exact e
   ·exact Gl h w m
  ·cases h
theorem Gm {p:Pg} {procs:List aB} : ∀ {l:List Pc},((pP p procs l).1==0)=true→∀ f∈l,eo (p.globals++f.own)=false∧∀ v∈Sm.du f.body,v.known p f procs=true
 | g::l,h,f,m=>by
  simp only[pP]at h
  split at h
  ·cases h
  ·rename_i e
   split at h
   ·cases h
   ·rename_i e2
    rcases zaw.1 m with rfl|m
    ·exact⟨by simpa using e,Gl e2⟩
    ·exact Gm h f m
theorem Jq {p:Pg} (h:(p.scope.1==0)=true):eo p.globals=false∧eo p.pn=false∧p.pQ=false∧∀ f∈p.procs,eo (p.globals++f.own)=false∧∀ v∈Sm.du f.body,v.known p f p.pn=true:=by
 unfold Pg.scope at h
 split at h
 ·split at h
  ·cases h
  ·rename_i e
   simp only[zay,not_or,zbA]at e
   exact⟨e.1,e.2.1,e.2.2,Gm h⟩
 ·cases h
theorem wJ {x:aB} : ∀ {l:List Sm},x∈jq l↔∃ v∈l,v.kind=4∧v.proc=x
 | []=>by simp[jq]
 | v::l=>by
  simp only[jq]
  cases e:(v.kind==4)
  ·have:v.kind≠4:=by simpa using e
   simp[this,wJ (l:=l)]
  ·have:v.kind=4:=by simpa using e
   simp only[if_true,zaw,wJ (l:=l),exists_eq_or_imp,this,true_and]
   constructor
   ·rintro(h | h)
    ·exact .inl h.symm
    ·exact .inr h
   ·rintro(h | h)
    ·exact .inl h.symm
    ·exact .inr h
theorem Sr {f:Pc} {x:aB} : x∈f.calls↔∃ v∈Sm.du f.body,v.kind=4∧v.proc=x:=by
 unfold Pc.calls;rw[(kV _).2,wJ]
theorem wK {p:Pg} (h:(p.scope.1==0)=true) {f:Pc} (hf:f∈p.procs) {x:aB} (m:x∈f.calls) : ∃ g,p.find x=some g:=by
 obtain⟨v,hv,h4,rfl⟩:=Sr.1 m
 have hk:=((Jq h).2.2.2 f hf).2 v hv
 simp only[Sm.known,h4,zaq,zay]at hk
 rcases hk.2 with h|⟨_,h⟩
 ·simp at h
 ·exact Gk ((fS _ _).1 h)
def xN (p:Pg) (x:aB):List aB:=match p.find x with|some f=>f.calls|none=> []
def qY (out:List aB):List aB→List aB
 | []=>out
 |x::l=>qY (l5 out x) l
def pX (p:Pg):Nat→Nat→List aB→List aB
 | 0,_,out=>out
 |n+1,i,out=>match out[i]? with
  |some x=>pX p n (i+1) (qY out (xN p x))
  |none=>out
def Pg.work (p:Pg) (name:aB):List aB:=pX p (p.procs.length+1) 0 [name]
def Good (p:Pg) (out:List aB):Prop:=out.Nodup∧∀ x∈out,∃ f,p.find x=some f
theorem Good.len {p:Pg} {out:List aB} (h:Good p out):out.length≤p.procs.length:=by
 have:=vO out p.pn h.1 fun x m=>by
  obtain⟨f,hf⟩:=h.2 x m
  obtain⟨h1,h2⟩:=ml hf
  rw[← h2];exact zaT h1
 simpa[Pg.pn]using this
theorem Good.Yk {p:Pg} {out:List aB} (h:Good p out) {x:aB} (hx : ∃ f,p.find x=some f):Good p (l5 out x):=by
 unfold l5
 split
 ·exact h
 ·rename_i e
  have:x∉out:=fun m=>e ((fS _ _).2 m)
  refine⟨List.nodup_append.2 ⟨h.1,by simp,fun a ha b hb e'=>?_⟩,fun y hy=>?_⟩
  ·have hbx:b=x:=by simpa using hb
   rw[e',hbx]at ha;exact this ha
  ·rcases zaB.1 hy with hy | hy
   ·exact h.2 y hy
   ·have:y=x:=by simpa using hy
    subst this;exact hx
theorem Good.add {p:Pg} : ∀ {l out:List aB},Good p out→(∀ x∈l,∃ f,p.find x=some f)→Good p (qY out l)
 | [],out,h,_=>h
 |x::l,out,h,hx=>Good.add (l:=l) (out:=l5 out x) (Good.Yk h (hx x zaE)) fun y m=>hx y (zaA _ m)
def Ss:Bool→Tag
 |true=> .tok 0
 |false=> .full
def Sv:Bool→Nat→List (Option Nat)
 |true,n=> [some n]
 |false,_=> []
theorem ep:Ss true = .tok 0:=rfl
theorem er:Ss false = .full:=rfl
theorem nB (n:Nat):Sv true n = [some n]:=rfl
theorem nC (n:Nat):Sv false n = []:=rfl
theorem Jr {l:List aB} {x:aB} (h:(l.length+1)*17≤bh) {g:Tag} (o:List (List D)) :
 fP 1 16 (.slice .full 1 (l.map encStr)) (.slice g 1 [[.str x]]) ⟨o,[]⟩=some (.slice (.tok 0) 1 (l.map encStr++ [[.str x]]),⟨o,[some (l.length+1)]⟩):=by
 simp[fP,h]
theorem Sw {p:Pg} (h:p.iK) (jd:(p.scope.1==0)=true) {name:aB} {f:Pc} (hf:p.find name=some f) (s:St):aC Tryz.prog 184 [.agg (bQ p), .str name] s (.slice .shared 1 ((gG (p.work name)).map encStr)) s:=by
 refine aC.pure ?_ (by simp[D.bP,D.ok,fH]) (by simp only[D.ok,Tag.ok,da];rfl) s
 obtain⟨n7,nh,pz⟩:=h.procs
 have hb:=ni jd
 obtain⟨R,hR⟩ : ∃ R,p.work name=R:=⟨_,rfl⟩
 rw[hR]
 unfold Pg.work at hR
 have hg0:Good p [name]:=⟨by simp,fun x m=>by
  have:x=name:=by simpa using m
  subst this;exact⟨f,hf⟩⟩
 unfold S0
 refine aC.go Dw.h rfl fun B Q hB hQ=>?_
 have⟨hC,hE,hF,hS⟩:=bt
 repeat' (first
 |simp only[go_sem,hC,hE,hF,hS]
 |(with_reducible refine ay hQ ?_;exact aK))
 refine b9 1 0 ?_ ?_ (aV.ind (ι:=Nat×Nat×List aB×Bool×Nat) (fun i=>pX p i.1 i.2.1 i.2.2.1=R∧Good p i.2.2.1∧i.1+i.2.1=p.procs.length+1∧i.2.2.2.2=i.2.2.1.length) (fun i=>i.1)
  (fun i=> [(2, .ptr 0 0),(5, .slice (Ss i.2.2.2.1) 1 (i.2.2.1.map encStr)),(6, .int .i64 (i.2.1:Int))]) (fun i=>⟨[bQ p],Sv i.2.2.2.1 i.2.2.2.2⟩) ?_ (p.procs.length+1,0,[name],false,1) ⟨hR,hg0,rfl,rfl⟩)
 ·(simp only[go_sem,hC,hE,hF,hS,er,ep];try exact aT)
 ·(simp only[go_sem,hC,hE,hF,hS,er,ep];try exact aT)
 rintro⟨n,i,out,b,no⟩ ⟨h1,h2,h3,h4⟩ IH
 dsimp only at h1 h2 h3 h4
 subst h4
 have ow:=h2.len
 cases hx:out[i]? with
 | none=>
  have hC:decide ((i:Int)<(out.length:Int))=false:=by have:=zbF.1 hx;simp;omega
  have:R=out:=by
   cases n with
   |zero=>simpa[pX]using h1.symm
   |succ n=>simp only[pX,hx]at h1;exact h1.symm
  subst this
  cases b
  all_goals
   have Sq:=fun g s=>Cu (l:=R) (by omega) g s
   repeat' (first
 |simp only[go_sem,hC,hE,hF,hS,ep,er,nB,nC]
 |(with_reducible refine CU (Sq _ _) ?_)
 |(with_reducible refine ay hQ ?_;exact aK))
 |some x=>
  have px:=(zai.1 hx).1
  have hC:decide ((i:Int)<(out.length:Int))=true:=by simp;omega
  have lR:i<4611686018427387904:=by omega
  cases n with
  |zero=>omega
  |succ n=>
  simp only[pX,hx]at h1
  obtain⟨g,jR⟩:=h2.2 x (zae hx)
  have D2:=(ml jR).1
  have BQ:=fun s=>Ws h hb jR s
  have nj:xN p x=g.calls:=by unfold xN;rw[jR]
  rw[nj]at h1
  have Js : ∀ y∈g.calls,∃ f,p.find y=some f:=fun y m=>wK jd D2 m
  have ah1:g.calls.length≤p.procs.length:=Good.len ⟨qX (kV _).1,Js⟩
  obtain⟨W,hW⟩ : ∃ W,qY out g.calls=W:=⟨_,rfl⟩
  have hWg:Good p W:=hW ▸ h2.add Js
  rw[hW]at h1
  cases b
  ·repeat' (first
 |simp only[go_sem,hC,hE,hF,hS,ep,er,nB,nC,hx]
 |(with_reducible refine CU (BQ _) ?_)
 | (with_reducible refine ay hQ ?_;exact aK))
   refine b9 1 0 ?_ ?_ (aV.ind (ι:=List aB×Nat×List aB×Bool×Nat) (fun j=>g.calls.drop j.2.1=j.1∧qY j.2.2.1 j.1=W∧Good p j.2.2.1∧j.2.2.2.2=j.2.2.1.length) (fun j=>j.1.length)
    (fun j=> [(2, .ptr 0 0),(5, .slice (Ss j.2.2.2.1) 1 (j.2.2.1.map encStr)),(6, .int .i64 (i:Int)),(22, .slice .shared 1 (g.calls.map encStr)),(23, .int .i64 (g.calls.length:Int)),(24, .int .i64 (j.2.1:Int))]) (fun j=>⟨[bQ p],Sv j.2.2.2.1 j.2.2.2.2⟩) ?_ (g.calls,0,out,false,out.length) ⟨rfl,hW,h2,rfl⟩)
   ·(simp only[go_sem,hC,hE,hF,hS,er,ep];try exact aT)
   ·(simp only[go_sem,hC,hE,hF,hS,er,ep];try exact aT)
   clear hW
   rintro⟨rest,k,bK,b',n'⟩ ⟨j1,j2,j3,j4⟩ mE
   dsimp only at j1 j2 j3 j4
   subst j4
   have acN:=j3.len
   cases rest with
   |nil=>
    have Aw:=drop_nil j1
    simp only[qY]at j2
    subst j2
    cases b'
    ·repeat' (first
 |simp only[go_sem,hC,hE,hF,hS,ep,er,nB,nC,Aw]
 | (with_reducible refine ay hQ ?_;exact aK))
     refine b9 1 0 ?_ ?_ (IH (n,i+1,bK,false,bK.length) ⟨h1,j3,by dsimp only;omega,rfl⟩ (zac _))
     ·(simp only[go_sem,hC,hE,hF,hS,er,ep,az lR];try exact aT)
     ·(simp only[go_sem,hC,hE,hF,hS,er,ep,az lR];try exact aT)
    ·repeat' (first
 |simp only[go_sem,hC,hE,hF,hS,ep,er,nB,nC,Aw]
 | (with_reducible refine ay hQ ?_;exact aK))
     refine b9 1 1 ?_ ?_ (IH (n,i+1,bK,true,_) ⟨h1,j3,by dsimp only;omega,rfl⟩ (zac _))
     ·(simp only[go_sem,hC,hE,hF,hS,er,ep,az lR];try exact aT)
     ·(simp only[go_sem,hC,hE,hF,hS,er,ep,az lR];try exact aT)
   | cons y rest=>
    obtain⟨ez,mF,gX,DW⟩:=drop_cons j1
    have eS:k<4611686018427387904:=by omega
    have hF:(bK.length+1)*17≤bh:=by unfold bh;omega
    have jS:=fun g s=>wF (l:=bK) (by omega) y g s
    have cY:=fun o=>Jr (l:=bK) (x:=y) hF (g:= .full) o
    have hy:=Js y (zae ez)
    have oH:=j3.Yk hy
    simp only[qY]at j2
    rcases zad (dq bK y)with c1|c1
    ·simp only [l5,c1,if_true]at j2
     cases b'
     ·repeat' (first
 |simp only[go_sem,hC,hE,hF,hS,ep,er,nB,nC,gX,ez,c1]
 |(with_reducible refine CU (jS _ _) ?_)
 |(with_reducible refine ay hQ ?_;exact aK))
      refine b9 1 0 ?_ ?_ (mE (rest,k+1,bK,false,bK.length) ⟨mF,j2,j3,rfl⟩ (zac _))
      ·(simp only[go_sem,hC,hE,hF,hS,er,ep,az eS];try exact aT)
      ·(simp only[go_sem,hC,hE,hF,hS,er,ep,az eS];try exact aT)
     ·repeat' (first
 |simp only[go_sem,hC,hE,hF,hS,ep,er,nB,nC,gX,ez,c1]
 |(with_reducible refine CU (jS _ _) ?_)
 | (with_reducible refine ay hQ ?_;exact aK))
      refine b9 1 1 ?_ ?_ (mE (rest,k+1,bK,true,_) ⟨mF,j2,j3,rfl⟩ (zac _))
      ·(simp only[go_sem,hC,hE,hF,hS,er,ep,az eS];try exact aT)
      ·(simp only[go_sem,hC,hE,hF,hS,er,ep,az eS];try exact aT)
    ·simp only [l5,c1,zaa,if_false]at j2 oH
     cases b'
     ·repeat' (first
 |simp only[go_sem,hC,hE,hF,hS,ep,er,nB,nC,gX,ez,c1,cY]
 |(with_reducible refine CU (jS _ _) ?_)
 |(with_reducible refine ay hQ ?_;exact aK))
      refine b9 1 1 ?_ ?_ (mE (rest,k+1,bK++ [y],true,bK.length+1) ⟨mF,j2,oH,by simp⟩ (zac _))
      ·(simp only[go_sem,hC,hE,hF,hS,er,ep,az eS,zag,zaf,zah,encStr];try exact aT)
      ·(simp only[go_sem,hC,hE,hF,hS,er,ep,az eS,zag,zaf,zah,encStr];try exact aT)
     ·repeat' (first
 |simp only[go_sem,hC,hE,hF,hS,ep,er,nB,nC,gX,ez,c1]
 |(with_reducible refine CU (jS _ _) ?_)
 |(with_reducible refine ay hQ ?_;exact aK))
      refine b9 1 1 ?_ ?_ (mE (rest,k+1,bK++ [y],true,bK.length+1) ⟨mF,j2,oH,by simp⟩ (zac _))
      ·(simp only[go_sem,hC,hE,hF,hS,er,ep,az eS,zag,zaf,zah,encStr];try exact aT)
      ·(simp only[go_sem,hC,hE,hF,hS,er,ep,az eS,zag,zaf,zah,encStr];try exact aT)
  ·repeat' (first
 |simp only[go_sem,hC,hE,hF,hS,ep,er,nB,nC,hx]
 |(with_reducible refine CU (BQ _) ?_)
 | (with_reducible refine ay hQ ?_;exact aK))
   refine b9 1 1 ?_ ?_ (aV.ind (ι:=List aB×Nat×List aB×Bool×Nat) (fun j=>g.calls.drop j.2.1=j.1∧qY j.2.2.1 j.1=W∧Good p j.2.2.1∧j.2.2.2.2=j.2.2.1.length) (fun j=>j.1.length)
    (fun j=> [(2, .ptr 0 0),(5, .slice (Ss j.2.2.2.1) 1 (j.2.2.1.map encStr)),(6, .int .i64 (i:Int)),(22, .slice .shared 1 (g.calls.map encStr)),(23, .int .i64 (g.calls.length:Int)),(24, .int .i64 (j.2.1:Int))]) (fun j=>⟨[bQ p],Sv j.2.2.2.1 j.2.2.2.2⟩) ?_ (g.calls,0,out,true,out.length) ⟨rfl,hW,h2,rfl⟩)
   ·(simp only[go_sem,hC,hE,hF,hS,er,ep];try exact aT)
   ·(simp only[go_sem,hC,hE,hF,hS,er,ep];try exact aT)
   clear hW
   rintro⟨rest,k,bK,b',n'⟩ ⟨j1,j2,j3,j4⟩ mE
   dsimp only at j1 j2 j3 j4
   subst j4
   have acN:=j3.len
   cases rest with
   |nil=>
    have Aw:=drop_nil j1
    simp only[qY]at j2
    subst j2
    cases b'
    ·repeat' (first
 |simp only[go_sem,hC,hE,hF,hS,ep,er,nB,nC,Aw]
 | (with_reducible refine ay hQ ?_;exact aK))
     refine b9 1 0 ?_ ?_ (IH (n,i+1,bK,false,bK.length) ⟨h1,j3,by dsimp only;omega,rfl⟩ (zac _))
     ·(simp only[go_sem,hC,hE,hF,hS,er,ep,az lR];try exact aT)
     ·(simp only[go_sem,hC,hE,hF,hS,er,ep,az lR];try exact aT)
    ·repeat' (first
 |simp only[go_sem,hC,hE,hF,hS,ep,er,nB,nC,Aw]
 | (with_reducible refine ay hQ ?_;exact aK))
     refine b9 1 1 ?_ ?_ (IH (n,i+1,bK,true,_) ⟨h1,j3,by dsimp only;omega,rfl⟩ (zac _))
     ·(simp only[go_sem,hC,hE,hF,hS,er,ep,az lR];try exact aT)
     ·(simp only[go_sem,hC,hE,hF,hS,er,ep,az lR];try exact aT)
   | cons y rest=>
    obtain⟨ez,mF,gX,DW⟩:=drop_cons j1
    have eS:k<4611686018427387904:=by omega
    have hF:(bK.length+1)*17≤bh:=by unfold bh;omega
    have jS:=fun g s=>wF (l:=bK) (by omega) y g s
    have cY:=fun o=>Jr (l:=bK) (x:=y) hF (g:= .full) o
    have hy:=Js y (zae ez)
    have oH:=j3.Yk hy
    simp only[qY]at j2
    rcases zad (dq bK y)with c1|c1
    ·simp only [l5,c1,if_true]at j2
     cases b'
     ·repeat' (first
 |simp only[go_sem,hC,hE,hF,hS,ep,er,nB,nC,gX,ez,c1]
 |(with_reducible refine CU (jS _ _) ?_)
 |(with_reducible refine ay hQ ?_;exact aK))
      refine b9 1 0 ?_ ?_ (mE (rest,k+1,bK,false,bK.length) ⟨mF,j2,j3,rfl⟩ (zac _))
      ·(simp only[go_sem,hC,hE,hF,hS,er,ep,az eS];try exact aT)
      ·(simp only[go_sem,hC,hE,hF,hS,er,ep,az eS];try exact aT)
     ·repeat' (first
 |simp only[go_sem,hC,hE,hF,hS,ep,er,nB,nC,gX,ez,c1]
 |(with_reducible refine CU (jS _ _) ?_)
 | (with_reducible refine ay hQ ?_;exact aK))
      refine b9 1 1 ?_ ?_ (mE (rest,k+1,bK,true,_) ⟨mF,j2,j3,rfl⟩ (zac _))
      ·(simp only[go_sem,hC,hE,hF,hS,er,ep,az eS];try exact aT)
      ·(simp only[go_sem,hC,hE,hF,hS,er,ep,az eS];try exact aT)
    ·simp only [l5,c1,zaa,if_false]at j2 oH
     cases b'
     ·repeat' (first
 |simp only[go_sem,hC,hE,hF,hS,ep,er,nB,nC,gX,ez,c1,cY]
 |(with_reducible refine CU (jS _ _) ?_)
 |(with_reducible refine ay hQ ?_;exact aK))
      refine b9 1 1 ?_ ?_ (mE (rest,k+1,bK++ [y],true,bK.length+1) ⟨mF,j2,oH,by simp⟩ (zac _))
      ·(simp only[go_sem,hC,hE,hF,hS,er,ep,az eS,zag,zaf,zah,encStr];try exact aT)
      ·(simp only[go_sem,hC,hE,hF,hS,er,ep,az eS,zag,zaf,zah,encStr];try exact aT)
     ·repeat' (first
 |simp only[go_sem,hC,hE,hF,hS,ep,er,nB,nC,gX,ez,c1]
 |(with_reducible refine CU (jS _ _) ?_)
 |(with_reducible refine ay hQ ?_;exact aK))
      refine b9 1 1 ?_ ?_ (mE (rest,k+1,bK++ [y],true,bK.length+1) ⟨mF,j2,oH,by simp⟩ (zac _))
      ·(simp only[go_sem,hC,hE,hF,hS,er,ep,az eS,zag,zaf,zah,encStr];try exact aT)
      ·(simp only[go_sem,hC,hE,hF,hS,er,ep,az eS,zag,zaf,zah,encStr];try exact aT)
def yC:AI→AI
 | .op d g (.om z k n ps)=> .op d g (.ud z k n ps)
 |a=>a
section
variable {P:Program}
theorem K7 {nt:Nat} {ops:Array Oper} {i:Nat} {o:Oper} {ai:AI} (hi:ops[i]? = some o) (hc:cI P nt ops o=some ai)
 {M:Map} {s:St} {w:World} {tm:Tm} {act:Act} (r:Rel M s w) (kp:Laid M s w) (ht:lM M s tm act.tmps) {K':Tm→St→Prop} (h:iR P [yC ai] K' tm s)
 {K:Act→World→Prop} {Q:Exit→Act→World→Prop}
 (hK : ∀ d v s1 w1 M1,K' (tm.put ai.dst d) s1→Ext M s w M1 s1 w1→Rel M1 s1 w1→RD M1 s1 d v→K (act.put o.dst v) w1):wpOp P ops Q i K act w:=by
 by_cases hb : ∃ d g z k n ps,ai = .op d g (.om z k n ps)
 ·obtain⟨d0,g0,z,k,n,ps,rfl⟩:=hb
  obtain⟨g,hg,_,hb⟩:=zV hc
  rw[sy hb]at hK
  simp only[wpOp,hi]
  have skip:K' (tm.put o.dst (.tuple [])) s→K (act.put o.dst Go.undef) w:=fun hk=>hK _ _ _ _ _ hk (Ext.refl M s w) r .undef
  have hd:=sy hb
  simp only[AI.dst]at hd
  subst hd
  have nL:CT P o=some (.om z k n ps)∧g0=g:=by
   unfold rS at hb
   split at hb
   ·split at hb
    ·obtain⟨xs,_,h⟩:=map_some hb;cases h
    ·cases hb
   ·obtain⟨xs,_,h⟩:=map_some hb;cases h
   ·split at hb
    ·cases hb
    ·split at hb
     ·rename_i nL
      simp only[Option.some.injEq,AI.op.injEq,true_and]at hb
      obtain⟨h1,h2⟩:=hb
      split at h2
      ·cases h2
      ·cases h2;exact⟨nL,h1.symm⟩
     ·rename_i ao eF nL
      simp only[Option.some.injEq,AI.op.injEq,true_and]at hb
      obtain⟨h1,h2⟩:=hb
      subst h2
      exact⟨nL,h1.symm⟩
     ·cases hb
  obtain⟨nL,rfl⟩:=nL
  simp only[yC,iR]at h
  rcases jU hg ht h with ⟨hw,hA⟩|⟨hw,hB⟩
  ·simp only [hw,if_true]
   left
   split at hA
   ·rename_i d s' qi
    obtain⟨v,w',M',c7,r',hv,e'⟩:=ye nL r ht qi
    unfold Oper.wp
    rcases c7 with c7|⟨c7,rfl⟩
    ·rw [c7,Oper.upon_value]
     exact hK _ _ _ _ _ hA e' r' hv
    ·rw [c7,Oper.upon_skip]
     exact hK _ _ _ _ _ hA e' r' hv
   ·exact hA.elim
  ·simp only [hw]
   exact skip hB
 ·have hs:yC ai=ai:=by
   unfold yC
   split
   ·rename_i d g z k n ps;exact absurd ⟨d,g,z,k,n,ps,rfl⟩ hb
   ·rfl
  rw[hs]at h
  exact wq hi hc r kp ht h hK
theorem ZM {a:AI} {r:List AI} {K:Tm→St→Prop} {tm:Tm} {s:St} (h:iR P (a::r) K tm s):iR P [a] (iR P r K) tm s:=by
 cases a<;>exact h
theorem Gn {B:eQ} {nt:Nat} {ops:Array Oper} {Q:Exit→Tm→St→Prop} : ∀ (l:List Nat) (ol:List Oper) (is:List AI),l.map (ops[·]?)=ol.map some→pK P nt ops ol=some is→
 ∀ (tm:Tm) (s:St) (act:Act) (w:World),iR P (is.map yC) (Q .normal) tm s→Holds B nt tm s act w→wpOps P ops (pD B nt Q) l act w
 | [],[],is,_,hc,tm,s,act,w,h,hh=>by cases hc;exact⟨tm,s,h,hh⟩
 | [],_::_,_,hl,_,_,_,_,_,_,_=>by simp at hl
 |_::_,[],_,hl,_,_,_,_,_,_,_=>by simp at hl
 | i::l,o::ol,is,hl,hc,tm,s,act,w,h,hh=>by
  simp only[zaf,List.cons.injEq]at hl
  obtain⟨hi,hl⟩:=hl
  unfold pK at hc
  split at hc
  ·rename_i ai QI h1 h2
   cases hc
   obtain⟨M,e,r,ht,hn,hd⟩:=hh
   have p9:=xc h1
   have hdd:=sA h1
   rw[zaf]at h
   have key:=K7 (K:=fun act w=>wpOps P ops (pD B nt Q) l act w) (Q:=pD B nt Q) hi h1 r (B.laid.ext e) ht (ZM h) (fun d v s1 w1 M1 hk e1 r1 hv=>
    Gn (Q:=Q) l ol QI hl h2 _ _ _ _ hk (hdd ▸ Holds.put e ht hn hd p9 e1 r1 hv))
   simpa only[wpOps,wpOp,hi]using key
  ·cases hc
theorem Sem.swap {B:eQ} {nt:Nat} {is:List AI} {Q:Exit→Tm→St→Prop} {tm:Tm} {s:St} (h:fZ P B nt (.run (is.map yC)) Q tm s):Sem P B nt (.run is) Q tm s:=by
 intro c hc act w hh
 obtain⟨id,ops,rfl,hi⟩:=lg hc
 refine wp_region ?_
 exact Gn _ _ is (zQ ops) hi tm s act w (nT h) hh
end
end Go.Abs
namespace Go.Abs
set_option maxRecDepth 8000
open Go.Proofs
theorem Pr {l:List aB} (h:l.Nodup):l8 l=gG l:=by
 refine wG ?_ (kV l).1 fun x=>?_
 ·have h1:=Gj l
  have h2:(l8 l).Nodup:=(List.mergeSort_perm l _).nodup_iff.2 h
  refine(List.pairwise_and_iff.2 ⟨h1,h2⟩).imp fun {a b} sJ=>?_
  rcases xM a b with e|e|e
  ·exact e
  ·exact absurd e sJ.2
  ·rw[sJ.1]at e;cases e
 ·rw[(kV l).2];exact(List.mergeSort_perm l _).mem_iff
theorem Ax {p:Pg} (jd:(p.scope.1==0)=true) : ∀ (n i:Nat) (out:List aB),Good p out→Good p (pX p n i out)
 | 0,i,out,h=>h
 | n+1,i,out,h=>by
  simp only[pX]
  split
  ·rename_i x hx
   obtain⟨g,hg⟩:=h.2 x (zae hx)
   refine Ax jd n _ _ (h.add fun y m=>?_)
   unfold xN at m
   rw[hg]at m
   exact wK jd (ml hg).1 m
  ·exact h
theorem Cv {p:Pg} {name:aB} {f:Pc} (hf:p.find name=some f):Good p [name]:=
 ⟨by simp,fun x m=>by
  have:x=name:=by simpa using m
  subst this;exact⟨f,hf⟩⟩
theorem ZN {p:Pg} (h:p.iK) (jd:(p.scope.1==0)=true) {name:aB} {f:Pc} (hf:p.find name=some f) (s:St):aC Tryz.prog 124 [.dJ (iA p) 0, .str name] s (.slice .shared 1 ((gG (p.work name)).map encStr)) s:=by
 refine aC.pure ?_ (by simp[D.bP,D.ok,yu]) (by simp only[D.ok,Tag.ok,da];rfl) s
 obtain⟨n7,nh,pz⟩:=h.procs
 obtain⟨R,hR⟩ : ∃ R,p.work name=R:=⟨_,rfl⟩
 have hgR:Good p R:=hR ▸ Ax jd _ _ _ (Cv hf)
 rw[hR, ← Pr hgR.1]
 unfold Pg.work at hR
 have hg0:Good p [name]:=Cv hf
 have Yj:=hgR.len
 unfold S0
 obtain⟨fn,vC,tF⟩:=y3.h
 refine aC.intro ⟨fn,vC,tF⟩ (za8 rfl) fun B hB=>?_
 generalize hQ:gZ (⟨[],[]⟩:St).aw.length (⟨[],[]⟩:St).aE.length _ _ (⟨[],[]⟩:St)=Q
 have⟨hC,hE,hF,hS⟩:=bt
 refine Sem.kM ?_
 repeat' (first
 |simp only[go_sem,hC,hE,hF,hS]
 |(with_reducible first|refine aX fun hc=>?_|refine aY fun hc=>?_|refine aZ (fun hc=>?_) fun hc=>?_)<;>(try simp only[hc,bs,↓reduceIte]at h)<;>try simp only[hc]
 |((with_reducible refine ay hQ ?_);exact cS)
 |(cases h;done))
 refine Sem.seq (Sem.swap ?_)
 simp only[zaf,zah,yC]
 repeat' (first
 |simp only[go_sem,hC,hE,hF,hS]
 |(with_reducible first|refine aX fun hc=>?_|refine aY fun hc=>?_|refine aZ (fun hc=>?_) fun hc=>?_)<;>(try simp only[hc,bs,↓reduceIte]at h)<;>try simp only[hc]
 |((with_reducible refine ay hQ ?_);exact cS)
 |(cases h;done))
 refine Sem.kM ?_
 repeat' (first
 |simp only[go_sem,hC,hE,hF,hS]
 |(with_reducible first|refine aX fun hc=>?_|refine aY fun hc=>?_|refine aZ (fun hc=>?_) fun hc=>?_)<;>(try simp only[hc,bs,↓reduceIte]at h)<;>try simp only[hc]
 |((with_reducible refine ay hQ ?_);exact cS)
 |(cases h;done))
 refine b8 0 1 (aV.ind (ι:=Nat×Nat×List aB×Nat) (fun i=>pX p i.1 i.2.1 i.2.2.1=R∧Good p i.2.2.1∧i.1+i.2.1=p.procs.length+1∧i.2.2.2=i.2.2.1.length) (fun i=>i.1)
  (fun i=> [(0, .dJ (iA p) 0),(5, .slice (.tok 0) 1 (i.2.2.1.map encStr)),(6, .int .i64 (i.2.1:Int))]) (fun i=>⟨[],[some i.2.2.2]⟩) ?_ (p.procs.length+1,0,[name],1) ⟨hR,hg0,rfl,rfl⟩)
 rintro⟨n,i,out,no⟩ ⟨h1,h2,h3,h4⟩ IH
 dsimp only at h1 h2 h3 h4
 subst h4
 have ow:=h2.len
 cases hx:out[i]? with
 | none=>
  have hC:decide ((i:Int)<(out.length:Int))=false:=by have:=zbF.1 hx;simp;omega
  have:R=out:=by
   cases n with
   |zero=>simpa[pX]using h1.symm
   |succ n=>simp only[pX,hx]at h1;exact h1.symm
  subst this
  repeat' (first
 |simp only[go_sem,hC,hE,hF,hS]
 |(with_reducible first|refine aX fun hc=>?_|refine aY fun hc=>?_|refine aZ (fun hc=>?_) fun hc=>?_)<;>(try simp only[hc,bs,↓reduceIte]at h)<;>try simp only[hc]
 |((with_reducible refine ay hQ ?_);exact cS)
 |(cases h;done))
  refine Sem.seq (Sem.sort (k:=5) (t:=0) (l:=R) hB (by decide) (by decide) (by decide) rfl rfl (by omega) ?_)
  refine iz (ac:=Q0H) (Q:=Q) (tm:= [(5, .slice (.tok 0) 1 ((l8 R).map encStr))]) (s:=⟨[],[some R.length]⟩) ?_
  repeat' (first
 |simp only[go_sem,hC,hE,hF,hS]
 |(with_reducible first|refine aX fun hc=>?_|refine aY fun hc=>?_|refine aZ (fun hc=>?_) fun hc=>?_)<;>(try simp only[hc,bs,↓reduceIte]at h)<;>try simp only[hc]
 |((with_reducible refine ay hQ ?_);exact cS)
 |(cases h;done))
 |some x=>
  have px:=(zai.1 hx).1
  have hC:decide ((i:Int)<(out.length:Int))=true:=by simp;omega
  have lR:i<4611686018427387904:=by omega
  cases n with
  |zero=>omega
  |succ n=>
  simp only[pX,hx]at h1
  obtain⟨g,jR⟩:=h2.2 x (zae hx)
  have D2:=(ml jR).1
  have BQ:=fun s=>ZL h jR s
  have nj:xN p x=g.calls:=by unfold xN;rw[jR]
  rw[nj]at h1
  have Js : ∀ y∈g.calls,∃ f,p.find y=some f:=fun y m=>wK jd D2 m
  have ah1:g.calls.length≤p.procs.length:=Good.len ⟨qX (kV _).1,Js⟩
  obtain⟨W,hW⟩ : ∃ W,qY out g.calls=W:=⟨_,rfl⟩
  rw[hW]at h1
  repeat' (first
 |simp only[go_sem,hC,hE,hF,hS,hx]
 |(with_reducible refine CU (BQ _) ?_)
 |(with_reducible first|refine aX fun hc=>?_|refine aY fun hc=>?_|refine aZ (fun hc=>?_) fun hc=>?_)<;>(try simp only[hc,bs,↓reduceIte]at h)<;>try simp only[hc]
 |((with_reducible refine ay hQ ?_);(try cases h);simp only[bp,bq,bS,bT,go_sem,hC,hE,hF,hS,hx];try exact cp)
 | (cases h;done))
  refine b8 0 1 (aV.ind (ι:=List aB×Nat×List aB×Nat) (fun j=>g.calls.drop j.2.1=j.1∧qY j.2.2.1 j.1=W∧Good p j.2.2.1∧j.2.2.2=j.2.2.1.length) (fun j=>j.1.length)
   (fun j=> [(0, .dJ (iA p) 0),(5, .slice (.tok 0) 1 (j.2.2.1.map encStr)),(6, .int .i64 (i:Int)),(22, .slice .shared 1 (g.calls.map encStr)),(23, .int .i64 (g.calls.length:Int)),(24, .int .i64 (j.2.1:Int))]) (fun j=>⟨[],[some j.2.2.2]⟩) ?_ (g.calls,0,out,out.length) ⟨rfl,hW,h2,rfl⟩)
  clear hW
  rintro⟨rest,k,bK,n'⟩ ⟨j1,j2,j3,j4⟩ mE
  dsimp only at j1 j2 j3 j4
  subst j4
  have acN:=j3.len
  cases rest with
  |nil=>
   have Aw:=drop_nil j1
   simp only[qY]at j2
   subst j2
   repeat' (first
 |simp only[go_sem,hC,hE,hF,hS,Aw]
 |(with_reducible first|refine aX fun hc=>?_|refine aY fun hc=>?_|refine aZ (fun hc=>?_) fun hc=>?_)<;>(try simp only[hc,bs,↓reduceIte]at h)<;>try simp only[hc]
 |((with_reducible refine ay hQ ?_);(try cases h);simp only[bp,bq,bS,bT,go_sem,hC,hE,hF,hS,Aw];try exact cp)
 | (cases h;done))
   refine b9 0 1 ?_ ?_ (IH (n,i+1,bK,bK.length) ⟨h1,j3,by dsimp only;omega,rfl⟩ (zac _))
   ·(simp only[go_sem,hC,hE,hF,hS,az lR];try exact aT)
   ·(simp only[go_sem,hC,hE,hF,hS,az lR];try exact aT)
  | cons y rest=>
   obtain⟨ez,mF,gX,DW⟩:=drop_cons j1
   have eS:k<4611686018427387904:=by omega
   have hF:(bK.length+1)*17≤bh:=by unfold bh;omega
   have jS:=fun g s=>jl (l:=bK) (by omega) y g s
   have hy:=Js y (zae ez)
   have oH:=j3.Yk hy
   simp only[qY]at j2
   rcases zad (dq bK y)with c1|c1
   ·simp only [l5,c1,if_true]at j2
    repeat' (first
 |simp only[go_sem,hC,hE,hF,hS,gX,ez,c1]
 |(with_reducible refine CU (jS _ _) ?_)
 |(with_reducible first|refine aX fun hc=>?_|refine aY fun hc=>?_|refine aZ (fun hc=>?_) fun hc=>?_)<;>(try simp only[hc,bs,↓reduceIte]at h)<;>try simp only[hc]
 |((with_reducible refine ay hQ ?_);(try cases h);simp only[bp,bq,bS,bT,go_sem,hC,hE,hF,hS,gX,ez,c1];try exact cp)
 | (cases h;done))
    refine b9 0 1 ?_ ?_ (mE (rest,k+1,bK,bK.length) ⟨mF,j2,j3,rfl⟩ (zac _))
    ·(simp only[go_sem,hC,hE,hF,hS,az eS];try exact aT)
    ·(simp only[go_sem,hC,hE,hF,hS,az eS];try exact aT)
   ·simp only [l5,c1,zaa,if_false]at j2 oH
    repeat' (first
 |simp only[go_sem,hC,hE,hF,hS,gX,ez,c1]
 |(with_reducible refine CU (jS _ _) ?_)
 |(with_reducible first|refine aX fun hc=>?_|refine aY fun hc=>?_|refine aZ (fun hc=>?_) fun hc=>?_)<;>(try simp only[hc,bs,↓reduceIte]at h)<;>try simp only[hc]
 |((with_reducible refine ay hQ ?_);(try cases h);simp only[bp,bq,bS,bT,go_sem,hC,hE,hF,hS,gX,ez,c1];try exact cp)
 | (cases h;done))
    refine b9 0 1 ?_ ?_ (mE (rest,k+1,bK++ [y],bK.length+1) ⟨mF,j2,oH,by simp⟩ (zac _))
    ·(simp only[go_sem,hC,hE,hF,hS,az eS,zag,zaf,zah,encStr];try exact aT)
    ·(simp only[go_sem,hC,hE,hF,hS,az eS,zag,zaf,zah,encStr];try exact aT)
theorem Jt (name:aB) : ∀ l:List Pc,l.any (fun f=>f.name==name)=(jm name l).isSome
 | []=>rfl
 |f::l=>by
  simp only[List.any_cons,jm]
  cases e:(f.name==name)
  ·simp[Jt name l]
  ·simp
theorem Wt (name:aB) (f:Pc):aC Tryz.prog 164 ([.agg (cf f)]++ [.ptr 0 0]) ⟨[[.str name]],[]⟩ (.bool (f.name==name)) ⟨[[.str name]],[]⟩:=by
 show aC Tryz.prog 164 [.agg (cf f), .ptr 0 0] _ _ _
 refine aC.go Bx.h rfl fun B Q hB hQ=>?_
 have⟨hC,hE,hF,hS⟩:=bt
 repeat' (first
 |simp only[go_sem,hC,hE,hF,hS]
 |(with_reducible refine ay hQ ?_;exact aK))
def Pg.wL (p:Pg) (name:aB):Option Pc:=if p.scope.1==0 then p.find name else none
theorem Wu {p:Pg} (h:p.iK) (name:aB) (s:St):aC Tryz.prog 123 [.agg (bQ p), .str name] s (.bool (p.wL name).isSome) s:=by
 refine aC.pure ?_ (by simp[D.bP,D.ok,fH]) rfl s
 obtain⟨n7,nh,pz⟩:=h.procs
 have gS:=fun s=>uJ h s
 have hi:=fun {s:St} {o:Nat} (ho:s.aw[o]? = some [.str name])=>Af (zk (l:=p.procs) (f:=164) (row:= [.str name]) (b:=fun f:Pc=>f.name==name) (by omega) rfl (by with_unfolding_all rfl) (fun x _=>Wt name x)) rfl (Hu _) rfl ho
 have ib:=fun {s:St} {o:Nat} (ho:s.aw[o]? = some [.str name])=>(show aC Tryz.prog 163 [.slice .shared 5 (p.procs.map cf), .gK 164 [.ptr o 0]] s (.bool (p.procs.any fun f:Pc=>f.name==name)) s from hi ho)
 simp only[Jt]at ib
 unfold Pg.wL Pg.find
 unfold S0
 rcases zad (p.scope.1==0)with b1|b1
 ·simp only [b1,if_true]
  refine aC.go vA.h rfl fun B Q hB hQ=>?_
  have⟨hC,hE,hF,hS⟩:=bt
  repeat' (first
 |simp only[go_sem,hC,hE,hF,hS,b1]
 |(with_reducible refine CU (gS _) ?_)
 |(with_reducible refine CU (ib (by with_unfolding_all rfl)) ?_)
 |(with_reducible refine ay hQ ?_;exact aK))
 ·simp only [b1,zaa,if_false,zbu]
  refine aC.go vA.h rfl fun B Q hB hQ=>?_
  have⟨hC,hE,hF,hS⟩:=bt
  repeat' (first
 |simp only[go_sem,hC,hE,hF,hS,b1]
 |(with_reducible refine CU (gS _) ?_)
 |(with_reducible refine CU (ib (by with_unfolding_all rfl)) ?_)
 |(with_reducible refine ay hQ ?_;exact aK))
def Pg.ajO (p:Pg) (name:aB):List aB:=match p.wL name with|some f=>f.calls|none=> []
def Pg.ah2 (p:Pg) (name:aB):List aB:=match p.wL name with|some _=>gG (p.work name)|none=> []
theorem Gp {p:Pg} {name:aB} {f:Pc} (h:p.wL name=some f):(p.scope.1==0)=true∧p.find name=some f:=by
 unfold Pg.wL at h
 split at h
 ·exact⟨by assumption,h⟩
 ·cases h
def og (p:Pg) (out:List aB):List aB→List aB
 | []=>out
 |v::l=>og p (if dq p.globals v then out++ [v]else out) l
def oh (p:Pg) (out:List aB):List Sm→List aB
 | []=>out
 |v::l=>oh p (og p out v.said) l
def pR (p:Pg) (n:aB):List Sm:=match p.find n with|some f=>Sm.du f.body|none=> []
def pY (p:Pg) (out:List aB):List aB→List aB
 | []=>out
 |n::l=>pY p (oh p out (pR p n)) l
theorem rO (p:Pg) : ∀ (l out:List aB),out.length≤(og p out l).length∧(og p out l).length≤out.length+l.length
 | [],out=>⟨zaj _,zaj _⟩
 |v::l,out=>by
  simp only[og]
  have h:=rO p l (if dq p.globals v then out++ [v]else out)
  have h2:out.length≤(if dq p.globals v then out++ [v]else out).length∧(if dq p.globals v then out++ [v]else out).length≤out.length+1:=by split<;>simp
  simp only[zal]
  omega
def oi:List Sm→Nat
 | []=>0
 |v::l=>v.said.length+oi l
theorem Ay : ∀ a b:List Sm,oi (a++b)=oi a+oi b
 | [],b=>by simp[oi]
 |v::a,b=>by simp only[zaH,oi,Ay a b];omega
theorem ZO (v:Sm):v.said.length≤1+v.x.size+2*Ar.aQ v.args:=by
 have : ∀ (l:List Ar) (out:List aB),(Ar.said out l).length≤out.length+2*Ar.aQ l:=by
  intro l
  induction l with
  |nil=>intro out;simp[Ar.said]
  |cons a l ih=>
   intro out
   simp only[Ar.said,Ar.aQ]
   refine zaN (ih _) ?_
   have:=gb a.x
   have:1≤a.x.size:=by obtain⟨_,_,_,_⟩:=a.x;simp[Ex.size]
   simp only[zak]
   split<;>simp<;>omega
 have h1:=this v.args (v.qW++v.x.names)
 have h2:=gb v.x
 have h4:v.qW.length≤1:=by unfold Sm.qW;split<;>simp
 simp only[zak]at h1
 unfold Sm.said
 omega
mutual
theorem Sx : ∀ s:Sm,oi s.pre≤2*s.size
 |⟨id,kind,labels,name,proc,x,has,args,bb,aR⟩=>by
  simp only[Sm.pre,oi,Ay,Sm.size]
  have h1:=ZO ⟨id,kind,labels,name,proc,x,has,args,bb,aR⟩
  have h2:=tT bb
  have h3:=tT aR
  dsimp only at h1
  omega
theorem tT : ∀ l:List Sm,oi (Sm.du l)≤2*Sm.aQ l
 | []=>by simp[Sm.du,oi,Sm.aQ]
 |s::l=>by
  simp only[Sm.du,Ay,Sm.aQ]
  have:=Sx s;have:=tT l;omega
end
theorem rP (p:Pg) : ∀ (l:List Sm) (out:List aB),out.length≤(oh p out l).length∧(oh p out l).length≤out.length+oi l
 | [],out=>⟨zaj _,zaj _⟩
 |v::l,out=>by
  simp only[oh,oi]
  have h:=rP p l (og p out v.said)
  have h2:=rO p v.said out
  omega
theorem rQ {p:Pg} (h:p.iK) : ∀ (l out:List aB),out.length≤(pY p out l).length∧(pY p out l).length≤out.length+l.length*1800000
 | [],out=>⟨zaj _,by simp[pY]⟩
 | n::l,out=>by
  simp only[pY]
  have h1:=rQ h l (oh p out (pR p n))
  have h2:=rP p (pR p n) out
  have h3:oi (pR p n)≤1800000:=by
   unfold pR
   split
   ·rename_i f hf
    have:=tT f.body
    have h4:=Pc.bX (ml hf).1
    have h5:=h.procs.2.1
    simp only[Pc.size]at h4
    omega
   ·simp[oi]
  simp only[zal]
  omega
theorem Gq {p:Pg} (h:p.may=true):p.procs.length≤16:=by
 unfold Pg.may at h
 split at h
 ·cases h
 ·rename_i c
  simp only[zay,decide_eq_true_eq,not_or,Int.not_lt,gt_iff_lt]at c
  have:=c.1.2
  omega
def Pg.mn (p:Pg) (name:aB):List aB:=pY p [] (gG (p.work name))
def Pg.nP (p:Pg) (name:aB):List aB:=match p.wL name with|some _=>gG (p.mn name)|none=> []
theorem Cw {p:Pg} (jd:(p.scope.1==0)=true) {name:aB} {f:Pc} (hf:p.find name=some f):Good p (gG (p.work name)):=by
 have h:=Ax jd (p.procs.length+1) 0 [name] (Cv hf)
 refine⟨qX (kV _).1,fun x m=>h.2 x ?_⟩
 exact((kV _).2 x).1 m
theorem Ps {p:Pg} (h:p.iK) (jd:(p.scope.1==0)=true) {name:aB} {f:Pc} (hf:p.find name=some f) (s:St):aC Tryz.prog 152 [.agg (bQ p), .str name] s (.slice .shared 1 ((gG (p.mn name)).map encStr)) s:=by
 refine aC.pure ?_ (by simp[D.bP,D.ok,fH]) (by simp only[D.ok,Tag.ok,da];rfl) s
 have hb:=ni jd
 obtain⟨n7,nh,pz⟩:=h.procs
 have hN:=Cw jd hf
 obtain⟨N,Ju⟩ : ∃ N,gG (p.work name)=N:=⟨_,rfl⟩
 rw[Ju]at hN
 have hNl:=hN.len
 obtain⟨R,hR⟩ : ∃ R,p.mn name=R:=⟨_,rfl⟩
 rw[hR]
 unfold Pg.mn at hR
 rw[Ju]at hR
 have Yj:R.length≤28800000:=by
  have:=(rQ h N []).2
  rw[hR]at this
  have h4:=Gq (ni jd)
  have h3:N.length*1800000≤16*1800000:=zaU _ (by omega)
  simp only[zax]at this
  omega
 have BQ:=fun s=>Sw h jd hf s
 simp only[Ju]at BQ
 unfold S0
 refine aC.go Cn.h rfl fun B Q hB hQ=>?_
 have⟨hC,hE,hF,hS⟩:=bt
 repeat' (first
 |simp only[go_sem,hC,hE,hF,hS]
 |(with_reducible refine CU (BQ _) ?_)
 |(with_reducible refine ay hQ ?_;exact aK))
 refine aV.gY 5 1 rfl ?_
 simp only[go_sem,hC,hE,hF,hS]
 refine b8 1 1 (aV.ind (ι:=List aB×Nat×List aB×Nat) (fun i=>N.drop i.2.1=i.1∧pY p i.2.2.1 i.1=R∧i.2.2.1.length≤R.length∧i.2.2.2=i.2.2.1.length) (fun i=>i.1.length)
  (fun i=> [(2, .ptr 0 0),(5, .slice (.tok 0) 1 (i.2.2.1.map encStr)),(16, .slice .shared 1 (N.map encStr)),(17, .int .i64 (N.length:Int)),(18, .int .i64 (i.2.1:Int))]) (fun i=>⟨[bQ p],[some i.2.2.2]⟩) ?_ (N,0,[],0) ⟨rfl,hR,zau _,rfl⟩)
 rintro⟨rest,k,out,no⟩ ⟨h1,h2,h3,h4⟩ IH
 dsimp only at h1 h2 h3 h4
 subst h4
 cases rest with
 |nil=>
  have hC:=drop_nil h1
  simp only[pY]at h2
  subst h2
  have Sq:=fun g s=>Cu (l:=out) (by omega) g s
  repeat' (first
 |simp only[go_sem,hC,hE,hF,hS]
 |(with_reducible refine CU (Sq _ _) ?_)
 |(with_reducible refine ay hQ ?_;exact aK))
 |cons x rest=>
  obtain⟨hE,g2,hC,g4⟩:=drop_cons h1
  have bm:k<4611686018427387904:=by omega
  obtain⟨g,jR⟩:=hN.2 x (zae hE)
  have D2:=(ml jR).1
  have hbd:pR p x=Sm.du g.body:=by unfold pR;rw[jR]
  simp only[pY,hbd]at h2
  have qU:=fun s=>Bf (p:=p) (by omega) x s
  simp only[jR,jo,zbv,zbl]at qU
  have wX:Sm.aQ g.body<4611686018427387000:=by have:=Pc.bX D2;simp only[Pc.size]at this;omega
  have iy:=fun s=>xJ (f:=g) wX s
  obtain⟨it,hie⟩ : ∃ it,g.flat=it:=⟨_,rfl⟩
  have oO:=(oR hb).1 g D2
  have Fc:g.flat.length≤201:=g.qd
  rw[hie]at oO Fc
  simp only[hie]at iy
  rw[← oO]at h2
  repeat' (first
 |simp only[go_sem,hC,hE,hF,hS,hE]
 |(with_reducible refine CU (qU _) ?_)
 |(with_reducible refine CU (iy _) ?_)
 | (with_reducible refine ay hQ ?_;exact aK))
  obtain⟨W,hW⟩ : ∃ W,oh p out (it.map It.s)=W:=⟨_,rfl⟩
  rw[hW]at h2
  have hWR:W.length≤R.length:=by have:=(rQ h rest W).1;rw[h2]at this;exact this
  have Ji:out.length≤W.length:=by have:=(rP p (it.map It.s) out).1;rw[hW]at this;exact this
  refine b8 1 1 (aV.ind (ι:=List It×Nat×List aB×Nat) (fun i=>it.drop i.2.1=i.1∧oh p i.2.2.1 (i.1.map It.s)=W∧i.2.2.1.length≤W.length∧i.2.2.2=i.2.2.1.length) (fun i=>i.1.length)
   (fun i=> [(2, .ptr 0 0),(5, .slice (.tok 0) 1 (i.2.2.1.map encStr)),(16, .slice .shared 1 (N.map encStr)),(17, .int .i64 (N.length:Int)),(18, .int .i64 (k:Int)),(29, .slice .shared 16 (it.map dX)),(30, .int .i64 (it.length:Int)),(31, .int .i64 (i.2.1:Int))]) (fun i=>⟨[bQ p],[some i.2.2.2]⟩) ?_ (it,0,out,out.length) ⟨rfl,hW,Ji,rfl⟩)
  rintro⟨jC,k2,qe,no⟩ ⟨j1,j2,j3,j4⟩ sK
  dsimp only at j1 j2 j3 j4
  subst j4
  cases jC with
  |nil=>
   have Wv:=drop_nil j1
   simp only[zah,oh]at j2
   subst j2
   repeat' (first
 |simp only[go_sem,hC,hE,hF,hS,Wv]
 | (with_reducible refine ay hQ ?_;exact aK))
   refine b9 1 1 ?_ ?_ (IH (rest,k+1,qe,qe.length) ⟨g2,h2,hWR,rfl⟩ (zac _))
   ·(simp only[go_sem,hC,hE,hF,hS,az bm];try exact aT)
   ·(simp only[go_sem,hC,hE,hF,hS,az bm];try exact aT)
  |cons y jC=>
   obtain⟨ez,mF,gX,DW⟩:=drop_cons j1
   have eS:k2<4611686018427387904:=by omega
   have hym:y.s∈Sm.du g.body:=by rw[← oO];exact zaT (zae ez)
   have BF:=h.said D2 _ hym
   have F3:=fun s=>BO BF s
   have Ao:=yz _ BF
   simp only[zaf,oh]at j2
   repeat' (first
 |simp only[go_sem,hC,hE,hF,hS,gX,ez]
 |(with_reducible refine CU (F3 _) ?_)
 | (with_reducible refine ay hQ ?_;exact aK))
   obtain⟨V,hV⟩ : ∃ V,og p qe y.s.said=V:=⟨_,rfl⟩
   rw[hV]at j2
   have hVW:V.length≤W.length:=by have:=(rP p (jC.map It.s) V).1;rw[j2]at this;exact this
   have hoV:qe.length≤V.length:=by have:=(rO p y.s.said qe).1;rw[hV]at this;exact this
   refine b8 1 1 (aV.ind (ι:=List aB×Nat×List aB×Nat) (fun i=>y.s.said.drop i.2.1=i.1∧og p i.2.2.1 i.1=V∧i.2.2.1.length≤V.length∧i.2.2.2=i.2.2.1.length) (fun i=>i.1.length)
    (fun i=> [(2, .ptr 0 0),(5, .slice (.tok 0) 1 (i.2.2.1.map encStr)),(16, .slice .shared 1 (N.map encStr)),(17, .int .i64 (N.length:Int)),(18, .int .i64 (k:Int)),(29, .slice .shared 16 (it.map dX)),(30, .int .i64 (it.length:Int)),(31, .int .i64 (k2:Int)),(37, .slice .shared 1 (y.s.said.map encStr)),(38, .int .i64 (y.s.said.length:Int)),(39, .int .i64 (i.2.1:Int))]) (fun i=>⟨[bQ p],[some i.2.2.2]⟩) ?_ (y.s.said,0,qe,qe.length) ⟨rfl,hV,hoV,rfl⟩)
   rintro⟨qZ,k3,nD,no⟩ ⟨l1,l2,l3,l4⟩ xO
   dsimp only at l1 l2 l3 l4
   subst l4
   cases qZ with
   |nil=>
    have Ww:=drop_nil l1
    simp only[og]at l2
    subst l2
    repeat' (first
 |simp only[go_sem,hC,hE,hF,hS,Ww]
 | (with_reducible refine ay hQ ?_;exact aK))
    refine b9 1 1 ?_ ?_ (sK (jC,k2+1,nD,nD.length) ⟨mF,j2,hVW,rfl⟩ (zac _))
    ·(simp only[go_sem,hC,hE,hF,hS,az eS];try exact aT)
    ·(simp only[go_sem,hC,hE,hF,hS,az eS];try exact aT)
   | cons z qZ=>
    obtain⟨Ap,Jj,Gf,lg4⟩:=drop_cons l1
    have zb:k3<4611686018427387904:=by omega
    have jS:=fun g s=>wF (l:=p.globals) (by omega) z g s
    simp only[og]at l2
    rcases zad (dq p.globals z)with c1|c1
    ·simp only [c1,if_true]at l2
     have hF:(nD.length+1)*17≤bh:=by unfold bh;omega
     have hoo:(nD++ [z]).length≤V.length:=by have:=(rO p qZ (nD++ [z])).1;rw[l2]at this;exact this
     repeat' (first
 |simp only[go_sem,hC,hE,hF,hS,Gf,Ap,c1]
 |(with_reducible refine CU (jS _ _) ?_)
 | (with_reducible refine ay hQ ?_;exact aK))
     refine b9 1 1 ?_ ?_ (xO (qZ,k3+1,nD++ [z],nD.length+1) ⟨Jj,l2,hoo,by simp⟩ (zac _))
     ·(simp only[go_sem,hC,hE,hF,hS,az zb,zag,zaf,zah,encStr];try exact aT)
     ·(simp only[go_sem,hC,hE,hF,hS,az zb,zag,zaf,zah,encStr];try exact aT)
    ·simp only [c1,zaa,if_false]at l2
     repeat' (first
 |simp only[go_sem,hC,hE,hF,hS,Gf,Ap,c1]
 |(with_reducible refine CU (jS _ _) ?_)
 |(with_reducible refine ay hQ ?_;exact aK))
     refine b9 1 1 ?_ ?_ (xO (qZ,k3+1,nD,nD.length) ⟨Jj,l2,l3,rfl⟩ (zac _))
     ·(simp only[go_sem,hC,hE,hF,hS,az zb];try exact aT)
     ·(simp only[go_sem,hC,hE,hF,hS,az zb];try exact aT)
theorem Sy {p:Pg} (h:p.iK) (name:aB) (s:St):aC Tryz.prog 71 [.agg (bQ p), .str name] s (.slice .shared 1 ((p.nP name).map encStr)) s:=by
 refine aC.pure ?_ (by simp[D.bP,D.ok,fH]) (by simp only[D.ok,Tag.ok,da];rfl) s
 have hk:=fun s=>Wu h name s
 have dK:=fun s=>DL (p:=p) (by have:=h.procs;omega) s
 unfold Pg.nP
 unfold S0
 cases Wx:p.wL name with
 |none=>
  simp only[Wx,zbu]at hk
  simp only[zah]
  refine aC.go tA.h rfl fun B Q hB hQ=>?_
  have⟨hC,hE,hF,hS⟩:=bt
  repeat' (first
 |simp only[go_sem,hC,hE,hF,hS]
 |(with_reducible refine CU (hk _) ?_)
 |(with_reducible refine ay hQ ?_;exact aK))
 |some f=>
 obtain⟨jd,hf⟩:=Gp Wx
 simp only[Wx,zbl]at hk
 dsimp only
 obtain⟨n7,nh,pz⟩:=h.procs
 have hN:=Cw jd hf
 obtain⟨N,Ju⟩ : ∃ N,gG (p.work name)=N:=⟨_,rfl⟩
 rw[Ju]at hN
 have hNl:=hN.len
 obtain⟨R,hR⟩ : ∃ R,p.mn name=R:=⟨_,rfl⟩
 rw[hR]
 unfold Pg.mn at hR
 rw[Ju]at hR
 have Yj:R.length≤28800000:=by
  have:=(rQ h N []).2
  rw[hR]at this
  have h4:=Gq (ni jd)
  have h3:N.length*1800000≤16*1800000:=zaU _ (by omega)
  simp only[zax]at this
  omega
 have BQ:=fun s=>ZN h jd hf s
 simp only[Ju]at BQ
 obtain⟨fn,vC,tF⟩:=tA.h
 refine aC.intro ⟨fn,vC,tF⟩ (za8 rfl) fun B hB=>?_
 generalize hQ:gZ (⟨[],[]⟩:St).aw.length (⟨[],[]⟩:St).aE.length _ _ (⟨[],[]⟩:St)=Q
 have⟨hC,hE,hF,hS⟩:=bt
 refine Sem.kM ?_
 repeat' (first
 |simp only[go_sem,hC,hE,hF,hS]
 |(with_reducible refine ay hQ ?_;exact aK))
 refine Sem.kM ?_
 repeat' (first
 |simp only[go_sem,hC,hE,hF,hS]
 |(with_reducible refine CU (hk _) ?_)
 |(with_reducible refine ay hQ ?_;exact aK))
 refine Sem.kM ?_
 repeat' (first
 |simp only[go_sem,hC,hE,hF,hS]
 |(with_reducible refine CU (dK _) ?_)
 |(with_reducible refine ay hQ ?_;exact aK))
 refine Sem.kM ?_
 repeat' (first
 |simp only[go_sem,hC,hE,hF,hS]
 |(with_reducible refine ay hQ ?_;exact aK))
 refine Sem.kM ?_
 repeat' (first
 |simp only[go_sem,hC,hE,hF,hS]
 |(with_reducible refine CU (BQ _) ?_)
 |(with_reducible refine ay hQ ?_;exact aK))
 refine aV.gY 6 1 rfl ?_
 simp only[go_sem,hC,hE,hF,hS]
 refine b8 1 1 (aV.ind (ι:=List aB×Nat×List aB×Nat) (fun i=>N.drop i.2.1=i.1∧pY p i.2.2.1 i.1=R∧i.2.2.1.length≤R.length∧i.2.2.2=i.2.2.1.length) (fun i=>i.1.length)
  (fun i=> [(2, .ptr 0 0),(5, .dJ (iA p) 0),(6, .slice (.tok 0) 1 (i.2.2.1.map encStr)),(21, .slice .shared 1 (N.map encStr)),(22, .int .i64 (N.length:Int)),(23, .int .i64 (i.2.1:Int))]) (fun i=>⟨[bQ p],[some i.2.2.2]⟩) ?_ (N,0,[],0) ⟨rfl,hR,zau _,rfl⟩)
 rintro⟨rest,k,out,no⟩ ⟨h1,h2,h3,h4⟩ IH
 dsimp only at h1 h2 h3 h4
 subst h4
 cases rest with
 |nil=>
  have hC:=drop_nil h1
  simp only[pY]at h2
  subst h2
  have Ao:(l8 out).length=out.length:=List.length_mergeSort out
  repeat' (first
 |simp only[go_sem,hC,hE,hF,hS]
 |(with_reducible refine ay hQ ?_;exact aK))
  refine Sem.seq (Sem.sort (k:=6) (t:=0) (l:=out) hB (by decide) (by decide) (by decide) rfl rfl (by omega) ?_)
  refine Sem.seq (Sem.compact (k:=6) (t:=0) (l:=l8 out) hB (by decide) rfl (by rw[Ao];rfl) (by rw[Ao];omega) ?_)
  rw[Au]
  refine iz (ac:= .ret) (Q:=Q) (tm:= [(59, .slice (.tok 0) 1 ((gG out).map encStr)),(4, .slice (.tok 0) 1 ((gG out).map encStr))]) (s:=⟨[],[some (gG out).length]⟩) ?_
  repeat' (first
 |simp only[go_sem,hC,hE,hF,hS]
 |(with_reducible refine ay hQ ?_;exact aK))
 | cons x rest=>
  obtain⟨hE,g2,hC,g4⟩:=drop_cons h1
  have bm:k<4611686018427387904:=by omega
  obtain⟨g,jR⟩:=hN.2 x (zae hE)
  have D2:=(ml jR).1
  have hbd:pR p x=Sm.du g.body:=by unfold pR;rw[jR]
  simp only[pY,hbd]at h2
  obtain⟨j,hj,tr⟩:=Av (k:=0) jR
  have tr:p.at x=((j:Nat):Int):=by unfold Pg.at;simpa using tr
  have tE:=fun s=>RV (p:=p) (by omega) x s
  simp only[tr]at tE
  obtain⟨it,oO,DX⟩:=VP hj (by omega)
  have Fc:it.length≤900000:=by
   have e:=congrArg List.length oO
   obtain⟨a,b,e',_,_,e3,e4⟩:=(qn p).2 j g hj
   have e5:=qo p
   have e6:=congrArg List.length e3
   rw[e4]at e5
   simp only[zaC,zak]at e e5 e6
   omega
  rw[← oO]at h2
  repeat' (first
 |simp only[go_sem,hC,hE,hF,hS,hE]
 |(with_reducible refine CU (tE _) ?_)
 |(with_reducible refine CU (DX _) ?_)
 | (with_reducible refine ay hQ ?_;exact aK))
  obtain⟨W,hW⟩ : ∃ W,oh p out (it.map Im.s)=W:=⟨_,rfl⟩
  rw[hW]at h2
  have hWR:W.length≤R.length:=by have:=(rQ h rest W).1;rw[h2]at this;exact this
  have Ji:out.length≤W.length:=by have:=(rP p (it.map Im.s) out).1;rw[hW]at this;exact this
  refine b8 1 1 (aV.ind (ι:=List Im×Nat×List aB×Nat) (fun i=>it.drop i.2.1=i.1∧oh p i.2.2.1 (i.1.map Im.s)=W∧i.2.2.1.length≤W.length∧i.2.2.2=i.2.2.1.length) (fun i=>i.1.length)
   (fun i=> [(2, .ptr 0 0),(5, .dJ (iA p) 0),(6, .slice (.tok 0) 1 (i.2.2.1.map encStr)),(21, .slice .shared 1 (N.map encStr)),(22, .int .i64 (N.length:Int)),(23, .int .i64 (k:Int)),(31, .slice .shared 17 (it.map eO)),(32, .int .i64 (it.length:Int)),(33, .int .i64 (i.2.1:Int))]) (fun i=>⟨[bQ p],[some i.2.2.2]⟩) ?_ (it,0,out,out.length) ⟨rfl,hW,Ji,rfl⟩)
  rintro⟨jC,k2,qe,no⟩ ⟨j1,j2,j3,j4⟩ sK
  dsimp only at j1 j2 j3 j4
  subst j4
  cases jC with
  |nil=>
   have Wv:=drop_nil j1
   simp only[zah,oh]at j2
   subst j2
   repeat' (first
 |simp only[go_sem,hC,hE,hF,hS,Wv]
 | (with_reducible refine ay hQ ?_;exact aK))
   refine b9 1 1 ?_ ?_ (IH (rest,k+1,qe,qe.length) ⟨g2,h2,hWR,rfl⟩ (zac _))
   ·(simp only[go_sem,hC,hE,hF,hS,az bm];try exact aT)
   ·(simp only[go_sem,hC,hE,hF,hS,az bm];try exact aT)
  |cons y jC=>
   obtain⟨ez,mF,gX,DW⟩:=drop_cons j1
   have eS:k2<4611686018427387904:=by omega
   have hym:y.s∈Sm.du g.body:=by rw[← oO];exact zaT (zae ez)
   have BF:=h.said D2 _ hym
   have F3:=fun s=>Ai BF s
   have Ao:=yz _ BF
   simp only[zaf,oh]at j2
   repeat' (first
 |simp only[go_sem,hC,hE,hF,hS,gX,ez]
 |(with_reducible refine CU (F3 _) ?_)
 | (with_reducible refine ay hQ ?_;exact aK))
   obtain⟨V,hV⟩ : ∃ V,og p qe y.s.said=V:=⟨_,rfl⟩
   rw[hV]at j2
   have hVW:V.length≤W.length:=by have:=(rP p (jC.map Im.s) V).1;rw[j2]at this;exact this
   have hoV:qe.length≤V.length:=by have:=(rO p y.s.said qe).1;rw[hV]at this;exact this
   refine b8 1 1 (aV.ind (ι:=List aB×Nat×List aB×Nat) (fun i=>y.s.said.drop i.2.1=i.1∧og p i.2.2.1 i.1=V∧i.2.2.1.length≤V.length∧i.2.2.2=i.2.2.1.length) (fun i=>i.1.length)
    (fun i=> [(2, .ptr 0 0),(5, .dJ (iA p) 0),(6, .slice (.tok 0) 1 (i.2.2.1.map encStr)),(21, .slice .shared 1 (N.map encStr)),(22, .int .i64 (N.length:Int)),(23, .int .i64 (k:Int)),(31, .slice .shared 17 (it.map eO)),(32, .int .i64 (it.length:Int)),(33, .int .i64 (k2:Int)),(39, .slice .shared 1 (y.s.said.map encStr)),(40, .int .i64 (y.s.said.length:Int)),(41, .int .i64 (i.2.1:Int))]) (fun i=>⟨[bQ p],[some i.2.2.2]⟩) ?_ (y.s.said,0,qe,qe.length) ⟨rfl,hV,hoV,rfl⟩)
   rintro⟨qZ,k3,nD,no⟩ ⟨l1,l2,l3,l4⟩ xO
   dsimp only at l1 l2 l3 l4
   subst l4
   cases qZ with
   |nil=>
    have Ww:=drop_nil l1
    simp only[og]at l2
    subst l2
    repeat' (first
 |simp only[go_sem,hC,hE,hF,hS,Ww]
 | (with_reducible refine ay hQ ?_;exact aK))
    refine b9 1 1 ?_ ?_ (sK (jC,k2+1,nD,nD.length) ⟨mF,j2,hVW,rfl⟩ (zac _))
    ·(simp only[go_sem,hC,hE,hF,hS,az eS];try exact aT)
    ·(simp only[go_sem,hC,hE,hF,hS,az eS];try exact aT)
   | cons z qZ=>
    obtain⟨Ap,Jj,Gf,lg4⟩:=drop_cons l1
    have zb:k3<4611686018427387904:=by omega
    have jS:=fun g s=>jl (l:=p.globals) (by omega) z g s
    simp only[og]at l2
    rcases zad (dq p.globals z)with c1|c1
    ·simp only [c1,if_true]at l2
     have hF:(nD.length+1)*17≤bh:=by unfold bh;omega
     have hoo:(nD++ [z]).length≤V.length:=by have:=(rO p qZ (nD++ [z])).1;rw[l2]at this;exact this
     repeat' (first
 |simp only[go_sem,hC,hE,hF,hS,Gf,Ap,c1]
 |(with_reducible refine CU (jS _ _) ?_)
 | (with_reducible refine ay hQ ?_;exact aK))
     refine b9 1 1 ?_ ?_ (xO (qZ,k3+1,nD++ [z],nD.length+1) ⟨Jj,l2,hoo,by simp⟩ (zac _))
     ·(simp only[go_sem,hC,hE,hF,hS,az zb,zag,zaf,zah,encStr];try exact aT)
     ·(simp only[go_sem,hC,hE,hF,hS,az zb,zag,zaf,zah,encStr];try exact aT)
    ·simp only [c1,zaa,if_false]at l2
     repeat' (first
 |simp only[go_sem,hC,hE,hF,hS,Gf,Ap,c1]
 |(with_reducible refine CU (jS _ _) ?_)
 |(with_reducible refine ay hQ ?_;exact aK))
     refine b9 1 1 ?_ ?_ (xO (qZ,k3+1,nD,nD.length) ⟨Jj,l2,l3,rfl⟩ (zac _))
     ·(simp only[go_sem,hC,hE,hF,hS,az zb];try exact aT)
     ·(simp only[go_sem,hC,hE,hF,hS,az zb];try exact aT)
mutual
def Sm.kH (deep bF:Int) (aR:Bool):Sm→List It
 |⟨id,kind,labels,name,proc,x,has,args,bb,e⟩=>⟨⟨id,kind,labels,name,proc,x,has,args,bb,e⟩,deep,bF,aR⟩::(Sm.ll (deep+1) id false bb++Sm.ll (deep+1) id true e)
def Sm.ll (deep bF:Int) (aR:Bool):List Sm→List It
 | []=> []
 |s::l=>s.kH deep bF aR++Sm.ll deep bF aR l
end
mutual
theorem Sz (deep bF:Int) (aR:Bool) (out:List It) : ∀ s:Sm,(ff deep bF aR out s).length≤200→(∀ i∈ff deep bF aR out s,i.deep≤12)→ff deep bF aR out s=out++s.kH deep bF aR
 | ⟨id,kind,labels,name,proc,x,has,args,bb,e⟩,h1,h2=>by
  simp only[ff,Sm.kH]at h1 h2 ⊢
  by_cases hd:deep≤12
  ·simp only [hd,decide_true,if_true]at h1 h2 ⊢
   obtain⟨e2,g2⟩:=oQ (deep+1) id true (cW (deep+1) id false (out++ [⟨⟨id,kind,labels,name,proc,x,has,args,bb,e⟩,deep,bF,aR⟩]) bb) e
   have k1:(cW (deep+1) id false (out++ [⟨⟨id,kind,labels,name,proc,x,has,args,bb,e⟩,deep,bF,aR⟩]) bb).length≤200:=by
    rw[g2,zak]at h1;omega
   have k2 : ∀ i∈cW (deep+1) id false (out++ [⟨⟨id,kind,labels,name,proc,x,has,args,bb,e⟩,deep,bF,aR⟩]) bb,i.deep≤12:=fun i m=>h2 i (by rw[g2];exact zbb _ m)
   rw[vP (deep+1) id true _ e h1 h2,vP (deep+1) id false _ bb k1 k2]
   simp
  ·simp only [hd,decide_false,zaa,if_false]at h1 h2
   exact absurd (h2 _ (zbs _ (zbK.2 rfl))) (by simpa using hd)
theorem vP (deep bF:Int) (aR:Bool) (out:List It) : ∀ l:List Sm,(cW deep bF aR out l).length≤200→(∀ i∈cW deep bF aR out l,i.deep≤12)→cW deep bF aR out l=out++Sm.ll deep bF aR l
 | [],h1,h2=>by simp[cW,Sm.ll]
 | s::l,h1,h2=>by
  simp only[cW,Sm.ll]at h1 h2 ⊢
  by_cases hc:(out.length:Int)≤200
  ·simp only [hc,decide_true,if_true]at h1 h2 ⊢
   obtain⟨e2,g2⟩:=oQ deep bF aR (ff deep bF aR out s) l
   have k1:(ff deep bF aR out s).length≤200:=by rw[g2,zak]at h1;omega
   have k2 : ∀ i∈ff deep bF aR out s,i.deep≤12:=fun i m=>h2 i (by rw[g2];exact zbb _ m)
   rw[vP deep bF aR _ l h1 h2,Sz deep bF aR out s k1 k2]
   simp
  ·simp only [hc,decide_false,zaa,if_false]at h1
   omega
end
theorem Jv : ∀ (l:List Pc) (out:List It),(allM out l).length≤200→(∀ i∈allM out l,i.deep≤12)→(∀ f∈l,f.flat=Sm.ll 1 0 false f.body)∧allM out l=out++(l.map fun f=>Sm.ll 1 0 false f.body).flatten
 | [],out,h1,h2=>⟨fun f m=>(by cases m),by simp[allM]⟩
 | f::l,out,h1,h2=>by
  simp only[allM]at h1 h2 ⊢
  by_cases hc:(((out++f.flat).length:Nat):Int) > 200
  ·simp only[hc,decide_true,if_true]at h1;omega
  ·simp only [hc,decide_false,zaa,if_false]at h1 h2 ⊢
   obtain⟨k1,k2⟩:=Jv l (out++f.flat) h1 h2
   have k3:f.flat=Sm.ll 1 0 false f.body:=by
    have:=vP 1 0 false [] f.body (by
     have:f.flat.length≤200:=by simp only[zak]at hc;omega
     exact this) (fun i m=>h2 i (by rw[k2];exact zbb _ (zbs _ m)))
    simpa[Pc.flat]using this
   refine⟨fun g m=>?_, ?_⟩
   ·rcases zaw.1 m with rfl | m
    ·exact k3
    ·exact k1 g m
   ·rw[k2,k3];simp
theorem ZP {p:Pg} (h:p.may=true):(∀ f∈p.procs,f.flat=Sm.ll 1 0 false f.body)∧p.all=(p.procs.map fun f=>Sm.ll 1 0 false f.body).flatten:=by
 obtain⟨h1,h2⟩:=tZ h
 have:=Jv p.procs [] h1 (vJ _ 0 h2).1
 simpa[Pg.all]using this
mutual
theorem Yl (deep bF:Int) (aR:Bool) : ∀ s:Sm,(s.kH deep bF aR).map It.s=s.pre
 |⟨id,kind,labels,name,proc,x,has,args,bb,e⟩=>by
  simp only[Sm.kH,Sm.pre,zaf,zag,xP _ _ _ bb,xP _ _ _ e]
theorem xP (deep bF:Int) (aR:Bool) : ∀ l:List Sm,(Sm.ll deep bF aR l).map It.s=Sm.du l
 | []=>rfl
 |s::l=>by simp only[Sm.ll,Sm.du,zag,Yl _ _ _ s,xP _ _ _ l]
end
def Az (l:List Sm) (none:Int):Int:=match l with| []=>none|t::_=>t.id
mutual
def Sm.tG (proc up next loop:Int):Sm→List Im
 |⟨id,kind,labels,name,pc,x,has,args,bb,aR⟩=>⟨⟨id,kind,labels,name,pc,x,has,args,bb,aR⟩,proc,up,next,loop⟩::
  (Sm.jz proc id (if kind==6 then id else next) (if kind==6 then id else loop) bb++Sm.jz proc id (if kind==6 then id else next) (if kind==6 then id else loop) aR)
def Sm.jz (proc up next loop:Int):List Sm→List Im
 | []=> []
 |s::l=>s.tG proc up (Az l next) loop++Sm.jz proc up next loop l
end
def mq (n:Nat) (l:List Sm):Prop:=∀ (i:Nat) (v:Sm),l[i]? = some v→v.id=((n+i+1:Nat):Int)
theorem mq.head {n:Nat} {v:Sm} {l:List Sm} (h:mq n (v::l)):v.id=((n+1:Nat):Int):=h 0 v rfl
theorem mq.tail {n:Nat} {v:Sm} {l:List Sm} (h:mq n (v::l)):mq (n+1) l:=fun i w hw=>by
 rw[h (i+1) w (by simpa using hw)];congr 1;omega
theorem mq.left {n:Nat} {a b:List Sm} (h:mq n (a++b)):mq n a:=fun i w hw=>h i w (by rw[zar (zai.1 hw).1];exact hw)
theorem mq.right {n:Nat} {a b:List Sm} (h:mq n (a++b)):mq (n+a.length) b:=fun i w hw=>by
 rw[h (a.length+i) w (by rw[zav (by omega)];simpa using hw)];congr 1;omega
theorem Wy (s:Sm):s.pre=s::(Sm.du s.bb++Sm.du s.aR):=Sm.I5 s
mutual
theorem LY : ∀ s:Sm,s.fk=s.pre.length
 |⟨id,kind,labels,name,proc,x,has,args,bb,aR⟩=>by
  simp only[Sm.fk,Sm.pre,zal,zak,yD bb,yD aR];omega
theorem yD : ∀ l:List Sm,Sm.dE l=(Sm.du l).length
 | []=>rfl
 |s::l=>by simp only[Sm.dE,Sm.du,zak,LY s,yD l]
end
mutual
theorem Ym (proc up next loop:Int) : ∀ s:Sm,(s.tG proc up next loop).map Im.s=s.pre
 |⟨id,kind,labels,name,pc,x,has,args,bb,aR⟩=>by
  simp only[Sm.tG,Sm.pre,zaf,zag,xQ _ _ _ _ bb,xQ _ _ _ _ aR]
theorem xQ (proc up next loop:Int) : ∀ l:List Sm,(Sm.jz proc up next loop l).map Im.s=Sm.du l
 | []=>rfl
 |s::l=>by simp only[Sm.jz,Sm.du,zag,Ym _ _ _ _ s,xQ _ _ _ _ l]
end
theorem LZ (proc up next loop:Int) (s:Sm):(s.tG proc up next loop).length=s.pre.length:=by rw[← Ym proc up next loop s,zaC]
theorem yE (proc up next loop:Int) (l:List Sm):(Sm.jz proc up next loop l).length=(Sm.du l).length:=by rw[← xQ proc up next loop l,zaC]
mutual
theorem ZQ (proc up next loop:Int) (out:List Im) : ∀ s:Sm,mq out.length s.pre→Im.one proc up next loop out s=out++s.tG proc up next loop
 | ⟨id,kind,labels,name,pc,x,has,args,bb,aR⟩,h=>by
  simp only[Sm.pre]at h
  have h0:id=((out.length+1:Nat):Int):=h.head
  have h1:=h.tail.left
  have h2:=h.tail.right
  have e0:((out.length:Int)+1)=id:=by rw[h0];rfl
  simp only[Im.one,Sm.tG,e0]
  rw[yF proc id _ _ (out++ [_]) bb (by rw[zak];exact h1)]
  rw[yF proc id _ _ _ aR (by
   rw[zak,zak,yE];exact h2)]
  simp
theorem yF (proc up next loop:Int) (out:List Im) : ∀ l:List Sm,mq out.length (Sm.du l)→Im.rows proc up next loop out l=out++Sm.jz proc up next loop l
 | [],h=>by simp[Im.rows,Sm.jz]
 | s::l,h=>by
  simp only[Sm.du]at h
  have e:(if l.length=0 then next else(out.length:Int)+1+(s.fk:Int))=Az l next:=by
   cases l with
   |nil=>rfl
   |cons t l=>
    have h2:=h.right
    simp only[Sm.du]at h2
    rw[Wy t]at h2
    simp only[zal,Az]
    rw[if_neg (by omega),h2.head,LY]
    omega
  simp only[Im.rows,Sm.jz,e]
  rw[ZQ proc up _ loop out s h.left,yF proc up next loop _ l (by rw[zak,LZ];exact h.right)]
  simp
end
def Ff (n:Nat):List Pc→List Im
 | []=> []
 |f::l=>Sm.jz n 0 (-1) 0 f.body++Ff (n+1) l
theorem L0 {p:Pg} (h:p.may=true):mq 0 p.pre:=fun i v hv=>by rw[acA h hv];congr 1;omega
def q5 (l:List It):Nat→Int→Int
 | 0,_=>0
 |n+1,bF=>if bF==0 then 0 else match l[n]? with
  |none=>0
  |some x=>if x.s.id != bF then q5 l n bF else if x.s.kind==6 then bF else q5 l n x.bF
theorem Jw (l:List It) : ∀ n,q5 l n 0=0
 | 0=>rfl
 |n+1=>rfl
theorem Jx {l : List It} {bF : Int} : ∀ {n m : Nat}, m ≤ n → n ≤ l.length → (∀ (j : Nat) (x : It), m ≤ j → j < n → l[j]? = some x → x.s.id ≠ bF) → q5 l n bF = q5 l m bF
 | 0, m, h, _, _ => by have : m = 0 := by omega
                       rw[this]
 | n + 1, m, h, hl, hx => by
   rcases zaF m (n + 1) with h1|h1
   · obtain ⟨x, e⟩ : ∃ x, l[n]? = some x := ⟨_, zap (by omega)⟩
     by_cases hz : bF = 0
     · rw[hz, Jw, Jw]
     · simp only [q5, e]
       rw[if_neg (by simpa using hz), if_pos (by simpa using hx n x (by omega) (by omega) e)]
       exact Jx (by omega) (by omega) fun j x h1 h2 => hx j x h1 (by omega)
   · have : m = n + 1 := by omega
     rw[this]
def Up (L:List It) (k:Nat) (kH:List It) (tG:List Im):Prop:=∀ (i:Nat) (a:It) (b:Im),kH[i]? = some a→tG[i]? = some b→a.s=b.s∧a.bF=b.up∧q5 L (k+i) a.bF=b.loop
mutual
theorem acV {L:List It} {A C:List It} {n:Nat} {proc up next loop deep:Int} {aR:Bool} : ∀ s:Sm,L=A++(s.kH deep up aR++C)→mq n (L.map It.s)→q5 L A.length up=loop→Up L A.length (s.kH deep up aR) (s.tG proc up next loop)
 | ⟨id,kind,labels,name,pc,x,has,args,bb,e⟩,hL,hid,hu=>by
  intro i a b ha hb
  have tK:L[A.length]? = some ⟨⟨id,kind,labels,name,pc,x,has,args,bb,e⟩,deep,up,aR⟩:=by
   rw[hL,zav (zaj _)];simp[Sm.kH]
  have hn:id=((n+A.length+1:Nat):Int):=hid A.length ⟨id,kind,labels,name,pc,x,has,args,bb,e⟩ (by rw[zat,tK];rfl)
  have Fg : ∀ (j:Nat) (y:It),L[j]? = some y→y.s.id=((n+j+1:Nat):Int):=fun j y hj=>hid j y.s (by rw[zat,hj];rfl)
  have hu2:q5 L (A.length+1) id=if kind==6 then id else loop:=by
   simp only[q5,tK]
   rw[if_neg (by simp only[beq_iff_eq];omega),if_neg (by simp)]
   split
   ·rfl
   ·exact hu
  simp only[Sm.kH]at ha hL
  simp only[Sm.tG]at hb
  have yG:(Sm.ll (deep+1) id false bb).length=(Sm.jz proc id (if kind==6 then id else next) (if kind==6 then id else loop) bb).length:=by
   rw[yE, ← xP (deep+1) id false bb,zaC]
  cases i with
  |zero=>
   simp only[zbe,Option.some.injEq]at ha hb
   subst ha hb
   exact⟨rfl,rfl,hu⟩
  | succ i=>
   simp only[zba]at ha hb
   rcases zaF i (Sm.ll (deep+1) id false bb).length with h1|h1
   ·rw [zar h1]at ha
    rw[zar (by rw[← yG];exact h1)]at hb
    have:=Bi (L:=L) (A:=A++ [⟨⟨id,kind,labels,name,pc,x,has,args,bb,e⟩,deep,up,aR⟩]) (C:=Sm.ll (deep+1) id true e++C) (n:=n) (proc:=proc) (up:=id) (next:=if kind==6 then id else next) (loop:=if kind==6 then id else loop) (deep:=deep+1) (aR:=false) (m:=A.length+1) bb
     (by rw[hL];simp) hid hu2 (by simp) (fun j y h2 h3=>by rw[Fg j y h3,hn];omega) i a b ha hb
    simpa[Nat.add_assoc,Nat.add_comm 1 i]using this
   ·rw [zav h1]at ha
    rw[zav (by rw[← yG];exact h1)]at hb
    have:=Bi (L:=L) (A:=A++⟨⟨id,kind,labels,name,pc,x,has,args,bb,e⟩,deep,up,aR⟩::Sm.ll (deep+1) id false bb) (C:=C) (n:=n) (proc:=proc) (up:=id) (next:=if kind==6 then id else next) (loop:=if kind==6 then id else loop) (deep:=deep+1) (aR:=true) (m:=A.length+1) e
     (by rw[hL];simp) hid hu2 (by simp) (fun j y h2 h3=>by rw[Fg j y h3,hn];omega) (i - (Sm.ll (deep+1) id false bb).length) a b ha (by rw[yG];exact hb)
    refine⟨this.1,this.2.1, ?_⟩
    have h3:=this.2.2
    rw[← h3]
    congr 1
    simp only[zak,zal]
    omega
theorem Bi {L:List It} {A C:List It} {n m:Nat} {proc up next loop deep:Int} {aR:Bool} : ∀ l:List Sm,L=A++(Sm.ll deep up aR l++C)→mq n (L.map It.s)→q5 L m up=loop→m≤A.length→(∀ (j:Nat) (y:It),m≤j→L[j]? = some y→y.s.id≠up)→Up L A.length (Sm.ll deep up aR l) (Sm.jz proc up next loop l)
 | [],hL,hid,hu,hm,eF=>fun i a b ha hb=>by simp[Sm.ll]at ha
 | s::l,hL,hid,hu,hm,eF=>by
  intro i a b ha hb
  simp only[Sm.ll]at ha hL
  simp only[Sm.jz]at hb
  have hAL:A.length≤L.length:=by rw[hL];simp
  have hu1:q5 L A.length up=loop:=by rw[Jx hm hAL fun j y h1 h2=>eF j y h1];exact hu
  have yG:(s.kH deep up aR).length=(s.tG proc up (Az l next) loop).length:=by rw[LZ, ← Yl deep up aR s,zaC]
  rcases zaF i (s.kH deep up aR).length with h1|h1
  ·rw [zar h1]at ha
   rw[zar (by rw[← yG];exact h1)]at hb
   exact acV (C:=Sm.ll deep up aR l++C) (n:=n) s (by rw[hL];simp) hid hu1 i a b ha hb
  ·rw [zav h1]at ha
   rw[zav (by rw[← yG];exact h1)]at hb
   have:=Bi (A:=A++s.kH deep up aR) (C:=C) (n:=n) (m:=m) (proc:=proc) (next:=next) (loop:=loop) l (by rw[hL];simp) hid hu (by simp;omega) eF (i - (s.kH deep up aR).length) a b ha (by rw[yG];exact hb)
   refine⟨this.1,this.2.1, ?_⟩
   have h3:=this.2.2
   rw[← h3]
   congr 1
   simp only[zak]
   omega
end
def hY (seen:List aB):List aB→List aB×Bool
 | []=>(seen,true)
 |n::l=>if dq seen n then(seen,false)else hY (seen++ [n]) l
theorem Gr : ∀ (l seen:List aB),hY seen l=(if pA seen l then((hY seen l).1,false)else(seen++l,true))
 | [],seen=>by simp[hY,pA]
 | n::l,seen=>by
  simp only[hY,pA]
  split
  ·rfl
  ·rw [Gr l (seen++ [n])]
   split
   ·rfl
   ·simp
theorem L1 : ∀ (a b seen:List aB),pA seen (a++b)=(pA seen a ||pA (seen++a) b)
 | [],b,seen=>by simp[pA]
 |x::a,b,seen=>by
  simp only[zaH,pA]
  split
  ·rfl
  ·rw[L1 a b (seen++ [x])];simp
theorem BR {seen l:List aB} (h:eo seen=false):hY seen l=(if eo (seen++l)then((hY seen l).1,false)else(seen++l,true)):=by
 rw[Gr]
 have:eo (seen++l)=pA seen l:=by unfold eo at h ⊢;rw[L1,h];simp
 rw[this]
 split<;>rfl
theorem Gs : ∀ (l seen:List aB),seen.length≤(hY seen l).1.length∧(hY seen l).1.length≤seen.length+l.length
 | [],seen=>by simp[hY]
 |n::l,seen=>by
  simp only[hY]
  split
  ·simp
  ·have:=Gs l (seen++ [n]);simp at this ⊢;omega
def tU (Pu:List aB) (v:Sm) (loop:Int):Bool:=if v.kind==7 ||v.kind==8 then loop != 0 else if v.kind==10 then dq Pu v.name else true
def q6 (Pu fin seen:List aB):List (Sm×Int)→Option Int
 | []=>if(hY seen fin).2 then none else some 0
 |(v,lp)::l=>if(hY seen v.labels).2 then(if tU Pu v lp then q6 Pu fin (hY seen v.labels).1 l else some v.id)else some v.id
def eT:List Sm→List aB
 | []=> []
 |v::l=>v.labels++eT l
def Pc.labels (f:Pc):List aB:=eT (Sm.du f.body)++f.fin
def Im.pair (m:Im):Sm×Int:=(m.s,m.loop)
def Pc.sd (f:Pc):List (Sm×Int):=(Sm.jz 0 0 (-1) 0 f.body).map Im.pair
def pZ:List Pc→Option Int
 | []=>none
 |f::l=>match q6 f.labels f.fin [] f.sd with
  |some id=>some id
  |none=>pZ l
def ln (c:Int):Option Int→Int×Int
 |some id=>(c,id)
 |none=>(0,0)
def Pg.jump (p:Pg):Int×Int:=if p.scope.1==0 then ln 7 (pZ p.procs)else(1,0)
mutual
theorem Wz (proc up next pe SA next' loop:Int) : ∀ s:Sm,(s.tG proc up next loop).map Im.pair=(s.tG pe SA next' loop).map Im.pair
 |⟨id,kind,labels,name,pc,x,has,args,bb,aR⟩=>by
  simp only[Sm.tG,zaf,zag,Im.pair]
  rw[vQ proc id _ pe id (if kind==6 then id else next') _ bb,vQ proc id _ pe id (if kind==6 then id else next') _ aR]
theorem vQ (proc up next pe SA next' loop:Int) : ∀ l:List Sm,(Sm.jz proc up next loop l).map Im.pair=(Sm.jz pe SA next' loop l).map Im.pair
 | []=>rfl
 |s::l=>by
  simp only[Sm.jz,zag]
  rw[Wz proc up _ pe SA (Az l next') loop s,vQ proc up next pe SA next' loop l]
end
theorem WA (n:Int) (f:Pc):(Sm.jz n 0 (-1) 0 f.body).map Im.pair=f.sd:=vQ _ _ _ _ _ _ _ _
def hZ (l:List It):Nat→Int→Int
 | 0,_=>0
 |n+1,id=>match l[n]? with
  |none=>0
  |some x=>if x.s.id != id then hZ l n id else if q5 l n x.bF != 0 then q5 l n x.bF else hZ l n id
theorem D3 {l:List It} {id:Int} : ∀ {n:Nat},(∀ (j:Nat) (x:It),j<n→l[j]? = some x→x.s.id≠id)→hZ l n id=0
 | 0,_=>rfl
 | n+1,h=>by
  simp only[hZ]
  split
  ·rfl
  ·rename_i x e
   rw[if_pos (by simpa using h n x (by omega) e)]
   exact D3 fun j x hj=>h j x (by omega)
theorem D4 {l:List It} {b i:Nat} {x:It} (hid:mq b (l.map It.s)) (hx:l[i]? = some x) : ∀ {n:Nat},i<n→n≤l.length→hZ l n x.s.id=q5 l i x.bF
 | 0,h,_=>by omega
 | n+1,h,hn=>by
  have Fg : ∀ (j:Nat) (y:It),l[j]? = some y→y.s.id=((b+j+1:Nat):Int):=fun j y hj=>hid j y.s (by rw[zat,hj];rfl)
  obtain⟨y,e⟩ : ∃ y,l[n]? = some y:=⟨_,zap (by omega)⟩
  have h1:=Fg n y e
  have h2:=Fg i x hx
  simp only[hZ,e]
  rcases zaF i n with h3|h3
  ·rw [if_pos (by simp only [bne_iff_ne,ne_eq];omega)]
   exact D4 hid hx h3 (by omega)
  ·have:i=n:=by omega
   subst this
   rw[hx]at e
   cases e
   rw[if_neg (by simp)]
   split
   ·rfl
   ·rename_i h4
    rw[D3 fun j z hj hz=>by rw[Fg j z hz,h2];omega]
    simpa using Eq.symm (by simpa using h4)
theorem K8 {p:Pg} (hb:p.may=true) {f:Pc} (hf:f∈p.procs):f.flat.length=f.sd.length∧∀ (i:Nat) (a:It),f.flat[i]? = some a→f.sd[i]? = some (a.s,hZ f.flat f.flat.length a.s.id):=by
 have iy:=(ZP hb).1 f hf
 obtain⟨base,r9⟩ : ∃ n,mq n (Sm.du f.body):=by
  have h:=L0 hb
  obtain⟨a,c,e⟩:=List.append_of_mem hf
  unfold Pg.pre at h
  rw[e,zag,List.flatten_append,zaf,List.flatten_cons]at h
  exact⟨_,h.right.left⟩
 have hid:mq base (f.flat.map It.s):=by rw[iy,xP];exact r9
 have hup:=Bi (L:=f.flat) (A:= []) (C:= []) (n:=base) (m:=0) (proc:=0) (up:=0) (next:= -1) (loop:=0) (deep:=1) (aR:=false) f.body (by rw[iy];simp) hid rfl (zau _) (fun j y _ hj=>by
  rw[hid j y.s (by rw[zat,hj];rfl)];omega)
 have hlen:f.flat.length=f.sd.length:=by
  unfold Pc.sd
  rw[zaC,yE,iy, ← xP 1 0 false f.body,zaC]
 refine⟨hlen,fun i a ha=>?_⟩
 have hi:=(zai.1 ha).1
 have ew:(Sm.jz 0 0 (-1) 0 f.body).length=f.sd.length:=by unfold Pc.sd;rw[zaC]
 obtain⟨m,hm⟩ : ∃ m,(Sm.jz 0 0 (-1) 0 f.body)[i]? = some m:=⟨_,zap (by omega)⟩
 obtain⟨e1,e2,e3⟩:=hup i a m (by rw[← iy];exact ha) hm
 rw[D4 hid ha hi (zaj _)]
 unfold Pc.sd
 rw[zat,hm]
 simp only[zax,za3]at e3
 show some (m.s,m.loop)=_
 rw[e1,e3]
theorem L2 : ∀ (l:List Pc) (n:Nat) (h:Sh),h.lo.length=n→h.hi.length=n→mq h.L.length ((l.map fun f=>Sm.du f.body).flatten)→
 ∃ lo hi,Sh.go n h l = ⟨h.L++Ff n l,h.lo++lo,h.hi++hi⟩∧lo.length=l.length∧hi.length=l.length∧
  ∀ (i:Nat) (f:Pc),l[i]? = some f→∃ a e:List Im,lo[i]? = some (((h.L++a).length:Int)+1)∧hi[i]? = some (((h.L++a++Sm.jz ((n+i:Nat):Int) 0 (-1) 0 f.body).length:Int)+1)∧Ff n l=a++Sm.jz ((n+i:Nat):Int) 0 (-1) 0 f.body++e
 | [],n,h,hl,hh,_=>⟨[],[],by simp[Sh.go,Ff],rfl,rfl,fun i f h=>by simp at h⟩
 | f::l,n,h,hl,hh,hi=>by
  simp only[zaf,List.flatten_cons]at hi
  simp only[Sh.go,Ff]
  have e1:=yF (n:Int) 0 (-1) 0 h.L f.body hi.left
  obtain⟨lo,ib,h2,h3,h4,h5⟩:=L2 l (n+1) ⟨Im.rows (n:Int) 0 (-1) 0 h.L f.body,h.lo++ [(h.L.length:Int)+1],h.hi++ [((Im.rows (n:Int) 0 (-1) 0 h.L f.body).length:Int)+1]⟩ (by simp[hl]) (by simp[hh]) (by
   show mq (Im.rows (n:Int) 0 (-1) 0 h.L f.body).length _
   rw[e1,zak,yE];exact hi.right)
  refine⟨((h.L.length:Int)+1)::lo,(((Im.rows (n:Int) 0 (-1) 0 h.L f.body).length:Int)+1)::ib, ?_,by simp[h3],by simp[h4],fun i g ib=>?_⟩
  ·rw[h2,e1];simp
  ·cases i with
   |zero=>
    simp only[zbe,Option.some.injEq]at ib
    subst ib
    exact⟨[],Ff (n+1) l,by simp,by rw[e1];simp,by simp⟩
   |succ i=>
    simp only[zba]at ib
    obtain⟨a,e,g1,g2,g3⟩:=h5 i g ib
    have en:n+1+i=n+(i+1):=by omega
    rw[en]at g2 g3
    refine⟨Sm.jz n 0 (-1) 0 f.body++a,e, ?_, ?_,by rw[g3];simp⟩
    ·rw[zba,g1,e1];simp
    ·rw[zba,g2,e1];simp
theorem acW {p:Pg} (hb:p.may=true) {i:Nat} {f:Pc} (hf:p.procs[i]? = some f) (hs:Pc.aQ p.procs<1000000000) (s:St) :
 aC Tryz.prog 65 [.dJ (iA p) 0, .int .i64 (i:Int)] s (.slice .shared 17 ((Sm.jz (i:Int) 0 (-1) 0 f.body).map eO)) s:=by
 obtain⟨lo,hi,h1,h2,h3,h4⟩:=L2 p.procs 0 ⟨[],[],[]⟩ rfl rfl (L0 hb)
 obtain⟨a,e,g1,g2,g3⟩:=h4 i f hf
 simp only[za3,zaR]at g1 g2 g3 h1
 refine ack hs (a:=a) (e:=e) ?_ ?_ ?_ s
 ·show(Sh.go 0 ⟨[],[],[]⟩ p.procs).lo[i]? = _
  rw[h1];exact g1
 ·show(Sh.go 0 ⟨[],[],[]⟩ p.procs).hi[i]? = _
  rw[h1];exact g2
 ·show(Sh.go 0 ⟨[],[],[]⟩ p.procs).L=_
  rw[h1];exact g3
theorem aC.ah3 {P:Program} {f:FuncId} {pre post:List D} {rows lx:List (List D)} {z z' k k':Nat} {b:Bool} (h:aC P f (pre++ .slice (.tok 0) z rows::post) ⟨[],[some k]⟩ (.tuple [.slice (.tok 0) z' lx, .bool b]) ⟨[],[some k']⟩)
 (hp:D.bP 0 0 pre=true) (ha:D.bP 0 0 post=true) (hw:D.jw 0 0 rows=true) (Q7:D.jw 0 0 lx=true)
 {s:St} {t:Nat} (ht:s.aE[t]? = some (some k)):aC P f (pre++ .slice (.tok t) z rows::post) s (.tuple [.slice (.tok t) z' lx, .bool b]) ⟨s.aw,s.aE.set t (some k')⟩:=by
 refine dG.frame [] [t] h (by simp) (by simp) (by simp) (by simpa using (zai.1 ht).1) rfl (fun i o' ds e1 e2=>by simp at e1) rfl (fun i t' e1=>?_)
  ?_ ?_ ?_
 ·cases i with
  |zero=>simp at e1;subst e1;simp[ht]
  |succ i=>simp at e1
 ·have h1:=fc [] [t] _ hp
  have h2:=fc [] [t] _ ha
  rw[fD]at h1 h2
  simp[fD,D.dv,Tag.dv,h1,h2,jx _ _ _ hw]
 ·have h1:=ik (n':=0) (m':=1) (zaj 0) (zau 1) _ hp
  have h2:=ik (n':=0) (m':=1) (zaj 0) (zau 1) _ ha
  rw[zS]at h1 h2 ⊢
  simp only[zax,zal,List.all_append,h1,zbc,List.all_cons,h2,zbn,D.ok,Tag.ok,nz (zau 0) (zau 1) _ hw]
  rfl
 ·rintro _ _ ⟨rfl,rfl⟩
  refine⟨by simp[D.back,D.dv,D.gf,Tag.dv,kr,jx _ _ _ Q7], ?_⟩
  simp[St.back,kA]
theorem acX {seen l:List aB} (hl:seen.length+l.length<1000000000):aC Tryz.prog 69 [.slice (.tok 0) 1 (seen.map encStr), .slice .shared 1 (l.map encStr)] ⟨[],[some seen.length]⟩
 (.tuple [.slice (.tok 0) 1 ((hY seen l).1.map encStr), .bool (hY seen l).2]) ⟨[],[some (hY seen l).1.length]⟩:=by
 generalize hR:hY seen l=R
 refine aC.go G5.h rfl fun B Q hB hQ=>?_
 have⟨hC,hE,hF,hS⟩:=bt
 repeat' (first
 |simp only[go_sem,hC,hE,hF,hS]
 |(with_reducible refine ay hQ ?_;exact aK))
 refine b8 0 1 (aV.ind (ι:=List aB×Nat×List aB×Nat) (fun i=>l.drop i.2.1=i.1∧hY i.2.2.1 i.1=R∧i.2.2.2=i.2.2.1.length∧i.2.2.1.length+i.1.length<1000000000) (fun i=>i.1.length)
  (fun i=> [(0, .slice (.tok 0) 1 (i.2.2.1.map encStr)),(8, .slice .shared 1 (l.map encStr)),(9, .int .i64 (l.length:Int)),(10, .int .i64 (i.2.1:Int))]) (fun i=>⟨[],[some i.2.2.2]⟩) ?_ (l,0,seen,seen.length) ⟨rfl,hR,rfl,hl⟩)
 clear hR
 rintro⟨rest,k,out,n⟩ ⟨h1,h2,h3,h4⟩ IH
 dsimp only at h1 h2 h3 h4
 subst h3
 cases rest with
 |nil=>
  have hC:=drop_nil h1
  simp only[hY]at h2
  subst h2
  repeat' (first
 |simp only[go_sem,hC,hE,hF,hS]
 |(with_reducible refine ay hQ ?_;exact aK))
 | cons x rest=>
  obtain⟨hE,g2,hC,g4⟩:=drop_cons h1
  have bm:k<4611686018427387904:=by omega
  simp only[zal]at h4
  have hF:(out.length+1)*17≤bh:=by unfold bh;omega
  have jS:=fun g s=>jl (l:=out) (by omega) x g s
  simp only[hY]at h2
  rcases zad (dq out x)with c1|c1
  ·simp only [c1,if_true]at h2
   subst h2
   repeat' (first
 |simp only[go_sem,hC,hE,hF,hS,c1]
 |(with_reducible refine CU (jS _ _) ?_)
 | (with_reducible refine ay hQ ?_;exact aK))
  ·simp only [c1,zaa,if_false]at h2
   repeat' (first
 |simp only[go_sem,hC,hE,hF,hS,c1]
 |(with_reducible refine CU (jS _ _) ?_)
 | (with_reducible refine ay hQ ?_;exact aK))
   refine b9 0 1 ?_ ?_ (IH (rest,k+1,out++ [x],out.length+1) ⟨g2,h2,by simp,by simp;omega⟩ (zac _))
   ·(simp only[go_sem,hC,hE,hF,hS,az bm,zag,zaf,zah,encStr];try exact aT)
   ·(simp only[go_sem,hC,hE,hF,hS,az bm,zag,zaf,zah,encStr];try exact aT)
theorem SB {seen l:List aB} (hl:seen.length+l.length<1000000000) {s:St} {t:Nat} (ht:s.aE[t]? = some (some seen.length)):aC Tryz.prog 69 [.slice (.tok t) 1 (seen.map encStr), .slice .shared 1 (l.map encStr)] s
 (.tuple [.slice (.tok t) 1 ((hY seen l).1.map encStr), .bool (hY seen l).2]) ⟨s.aw,s.aE.set t (some (hY seen l).1.length)⟩:=
 (acX hl).ah3 (pre:= []) (post:= [_]) rfl (by simp[D.bP,D.ok,Tag.ok,da]) (da _) (da _) ht
theorem WB (x:Im):(eO x)[2]? = some (.slice .shared 1 (x.s.labels.map encStr)):=nd rfl
theorem SC (x:Im):(eO x)[3]? = some (.str x.s.name):=nd rfl
attribute [go_sem] WB SC
def q7 (fin:List aB) (label:aB):List Sm→Int×Bool
 | []=>if dq fin label then(-1,true)else(0,false)
 |v::l=>if dq v.labels label then(v.id,true)else q7 fin label l
theorem Gt (fin:List aB) (label:aB) : ∀ l:List Sm,(q7 fin label l).2=dq (eT l++fin) label
 | []=>by simp only[q7,eT,zaR];split<;>simp_all
 | v::l=>by
  simp only[q7,eT,zaD]
  have h:=Gt fin label l
  rw[Bool.eq_iff_iff,fS]at h
  split
  ·rename_i c
   exact((fS _ _).2 (zaB.2 (.inl ((fS _ _).1 c)))).symm
  ·rename_i c
   have:label∉v.labels:=fun m=>c ((fS _ _).2 m)
   rw[Bool.eq_iff_iff,h,fS]
   exact⟨fun m=>zaB.2 (.inr m),fun m=>(zaB.1 m).resolve_left this⟩
theorem Jy {p:Pg} {v:Sm} (ho:p.iK) {f:Pc} (hf:f∈p.procs) (hv:v∈Sm.du f.body):v.labels.length≤900000:=by
 have key : ∀ n:Nat,(∀ s:Sm,s.pre.length≤n→∀ v∈s.pre,v.labels.length≤s.size)∧(∀ l:List Sm,(Sm.du l).length≤n→∀ v∈Sm.du l,v.labels.length≤Sm.aQ l):=by
  intro n
  induction n with
  |zero=>
   refine⟨fun s h=>by rw[Sm.I5]at h;simp at h,fun l h v m=>?_⟩
   have:=zbi (Nat.le_zero.1 h)
   rw[this]at m;cases m
  | succ n ih=>
   have h1 : ∀ s:Sm,s.pre.length≤n+1→∀ v∈s.pre,v.labels.length≤s.size:=by
    intro s h v m
    rw[Sm.I5]at h m
    simp only[zal,zak]at h
    obtain⟨id,kind,labels,name,proc,x,has,args,bb,aR⟩:=s
    simp only[Sm.size]
    rcases zaw.1 m with rfl|m
    ·dsimp only;omega
    ·rcases zaB.1 m with m | m
     ·have:=ih.2 bb (by dsimp only at h;omega) v m;omega
     ·have:=ih.2 aR (by dsimp only at h;omega) v m;omega
   refine⟨h1,fun l=>?_⟩
   induction l with
   |nil=>intro _ v m;cases m
   |cons s l ihl=>
    intro h v m
    simp only[Sm.du,zak]at h
    simp only[Sm.du]at m
    simp only[Sm.aQ]
    rcases zaB.1 m with m|m
    ·have:=h1 s (by omega) v m;omega
    ·have:=ihl (by omega) v m;omega
 have h1:=(key (Sm.du f.body).length).2 f.body (zaj _) v hv
 have h2:=Pc.bX hf
 have h3:=ho.procs.2.1
 simp only[Pc.size]at h2
 omega
theorem AA {p:Pg} (ho:p.iK) {f:Pc} (hf:f∈p.procs):f.fin.length≤900000:=by
 have h2:=Pc.bX hf
 have h3:=ho.procs.2.1
 simp only[Pc.size]at h2
 omega
theorem D5 {p:Pg} (ho:p.iK) {f:Pc} (hf:f∈p.procs):(Sm.du f.body).length≤900000:=by
 rw[← yD]
 have:=kT f.body
 have h2:=Pc.bX hf
 have h3:=ho.procs.2.1
 simp only[Pc.size]at h2
 omega
theorem ah4 {p:Pg} (ho:p.iK) (hb:p.may=true) {i:Nat} {f:Pc} (hf:p.procs[i]? = some f) (label:aB) (s:St) :
 aC Tryz.prog 122 [.dJ (iA p) 0, .int .i64 (i:Int), .str label] s (.tuple [.int .i64 (q7 f.fin label (Sm.du f.body)).1, .bool (q7 f.fin label (Sm.du f.body)).2]) s:=by
 refine aC.pure ?_ (by simp[D.bP,D.ok,yu]) rfl s
 obtain⟨n7,nh,pz⟩:=ho.procs
 have mS:=zae hf
 have DX:=fun s=>acW hb hf (by omega) s
 have rN:=xQ (i:Int) 0 (-1) 0 f.body
 have Jz:=D5 ho mS
 have acY:=AA ho mS
 have tF:=fun s=>qT (l:=f.fin) (by omega) label s
 have px:i<p.procs.length:=(zai.1 hf).1
 generalize hI:Sm.jz (i:Int) 0 (-1) 0 f.body=I at *
 have hIl:I.length≤900000:=by rw[← rN,zaC]at Jz;exact Jz
 obtain⟨R,hR⟩ : ∃ R,q7 f.fin label (Sm.du f.body)=R:=⟨_,rfl⟩
 rw[hR]
 rw[← rN]at hR
 unfold S0
 refine aC.go Bw.h rfl fun B Q hB hQ=>?_
 have⟨hC,hE,hF,hS⟩:=bt
 repeat' (first
 |simp only[go_sem,hC,hE,hF,hS]
 |(with_reducible refine CU (DX _) ?_)
 |(with_reducible refine ay hQ ?_;exact aK))
 refine b8 0 0 (aV.ind (ι:=List Im×Nat) (fun j=>I.drop j.2=j.1∧q7 f.fin label (j.1.map Im.s)=R) (fun j=>j.1.length)
  (fun j=> [(0, .dJ (iA p) 0),(1, .int .i64 (i:Int)),(2, .str label),(12, .slice .shared 17 (I.map eO)),(13, .int .i64 (I.length:Int)),(14, .int .i64 (j.2:Int))]) (fun j=>⟨[],[]⟩) ?_ (I,0) ⟨rfl,hR⟩)
 clear hR
 rintro⟨rest,k⟩ ⟨h1,h2⟩ IH
 dsimp only at h1 h2
 cases rest with
 | nil=>
  have hC:=drop_nil h1
  simp only[zah,q7]at h2
  rcases zad (dq f.fin label)with c1|c1
  ·simp only [c1,if_true]at h2
   subst h2
   repeat' (first
 |simp only[go_sem,hC,hE,hF,hS,rM,hf,c1]
 |(with_reducible refine CU (tF _) ?_)
 | (with_reducible refine ay hQ ?_;exact aK))
  ·simp only [c1,zaa,if_false]at h2
   subst h2
   repeat' (first
 |simp only[go_sem,hC,hE,hF,hS,rM,hf,c1]
 |(with_reducible refine CU (tF _) ?_)
 |(with_reducible refine ay hQ ?_;exact aK))
 | cons a rest=>
  obtain⟨hE,g2,hC,g4⟩:=drop_cons h1
  have bm:k<4611686018427387904:=by omega
  have vK:a.s∈Sm.du f.body:=by rw[← rN];exact zaT (zae hE)
  have w9:=fun s=>qT (l:=a.s.labels) (by have:=Jy ho mS vK;omega) label s
  simp only[zaf,q7]at h2
  rcases zad (dq a.s.labels label)with c1|c1
  ·simp only [c1,if_true]at h2
   subst h2
   repeat' (first
 |simp only[go_sem,hC,hE,hF,hS,c1]
 |(with_reducible refine CU (w9 _) ?_)
 | (with_reducible refine ay hQ ?_;exact aK))
  ·simp only [c1,zaa,if_false]at h2
   repeat' (first
 |simp only[go_sem,hC,hE,hF,hS,c1]
 |(with_reducible refine CU (w9 _) ?_)
 | (with_reducible refine ay hQ ?_;exact aK))
   refine b9 0 0 ?_ ?_ (IH (rest,k+1) ⟨g2,h2⟩ (zac _))
   ·(simp only[go_sem,hC,hE,hF,hS,az bm];try exact aT)
   ·(simp only[go_sem,hC,hE,hF,hS,az bm];try exact aT)
theorem ZR {p:Pg} (ho:p.iK) (hb:p.may=true) {i:Nat} {f:Pc} (hf:p.procs[i]? = some f) (m:Im) (hm:m.proc=(i:Int)) (s:St) :
 aC Tryz.prog 70 [.dJ (iA p) 0, .agg (eO m)] s (.bool (tU f.labels m.s m.loop)) s:=by
 refine aC.pure ?_ (by simp[D.bP,D.ok,yu,O8]) rfl s
 have tr:=fun s=>ah4 ho hb hf m.s.name s
 have acZ:=Gt f.fin m.s.name (Sm.du f.body)
 rw[← hm]at tr
 obtain⟨A,hA⟩ : ∃ A,q7 f.fin m.s.name (Sm.du f.body)=A:=⟨_,rfl⟩
 rw[hA]at tr acZ
 obtain⟨R,hR⟩ : ∃ R,tU f.labels m.s m.loop=R:=⟨_,rfl⟩
 rw[hR]
 unfold tU Pc.labels at hR
 unfold S0
 rcases zad (m.s.kind==7)with c1|c1
 ·simp only [c1,za6,if_true]at hR
  subst hR
  refine aC.go o6.h rfl fun B Q hB hQ=>?_
  have⟨hC,hE,hF,hS⟩:=bt
  repeat' (first
 |simp only[go_sem,hC,hE,hF,hS,c1]
 |(with_reducible refine ay hQ ?_;exact aK))
 rcases zad (m.s.kind==8)with c2|c2
 ·simp only [c1,c2,zbt,if_true]at hR
  subst hR
  refine aC.go o6.h rfl fun B Q hB hQ=>?_
  have⟨hC,hE,hF,hS⟩:=bt
  repeat' (first
 |simp only[go_sem,hC,hE,hF,hS,c1,c2]
 |(with_reducible refine ay hQ ?_;exact aK))
 rcases zad (m.s.kind==10)with c3|c3
 ·simp only [c1,c2,c3,zbz,zaa,if_false,if_true, ← acZ]at hR
  subst hR
  refine aC.go o6.h rfl fun B Q hB hQ=>?_
  have⟨hC,hE,hF,hS⟩:=bt
  repeat' (first
 |simp only[go_sem,hC,hE,hF,hS,c1,c2,c3]
 |(with_reducible refine CU (tr _) ?_)
 |(with_reducible refine ay hQ ?_;exact aK))
 ·simp only [c1,c2,c3,zbz,zaa,if_false]at hR
  subst hR
  refine aC.go o6.h rfl fun B Q hB hQ=>?_
  have⟨hC,hE,hF,hS⟩:=bt
  repeat' (first
 |simp only[go_sem,hC,hE,hF,hS,c1,c2,c3]
 |(with_reducible refine ay hQ ?_;exact aK))
end Go.Abs
