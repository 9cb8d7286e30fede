/-
  What is proved here: part 3 of the road to the claim (Nm3, Tree1, Tree2, Sc1, Sc2, Sc3, ScP, Sc4, Sc5, Ar1, Ar2, Ar3, Srt1, Shelf, SortR, SrtP, Tc1, Tc2, Tc3, Bsl, Tc4, Tc5, Tc6, ScPr, ToP, FlP, JmpP, Al1, Al2, Al3, Prs5, MirParse, Room1, Al4, Full1, Fits1, Fits2, MirEq, RefEq, RefEq2, LawTo1, LawAl2, SwP, MirMapS, MapS, RightP, MayLaw, MirNum, MayLaw2, MayLaw3, SubP, Cp1, Cp2, SelA).
  No conditions.
-/
import Derived.Test.YtpjadlleefgcpabGreatRnL2
import Derived.Shelf.Small.Bits
import Derived.Shelf.Strconv.Itoa0
import Derived.Shelf.Sort.Plain
import Derived.Shelf.Slices.Turned
import Derived.Ground.Names2Prog
import Derived.Shelf.Slices.Clone
import Derived.Shelf.Slices.CompactS
import Derived.Shelf.Slices.Cells
import Derived.Shelf.Slices.In.SortNone
import Derived.Ground.SlgnProg
import Derived.Shelf.SlicesE.Clone
import Derived.Test.YtpjadlleefgcpabGreatProg
import Derived.Sort.Walk0

set_option linter.unusedSimpArgs false
set_option linter.unusedVariables false
namespace Go.Abs
set_option maxRecDepth 8000
open Go.Proofs
def Ar.said (out:List aF):List Ar→List aF
 | []=>out
 |a::l=>Ar.said ((if a.ref then out++ [a.name]else out)++a.x.names) l
def Sm.u7 (v:Sm):List aF:=if v.kind != 10 && v.name != []then [v.name]else []
def Sm.said (v:Sm):List aF:=Ar.said (v.u7++v.x.names) v.args
theorem me (x:Ex):x.names.length≤x.size:=by
 unfold Ex.names
 split
 ·simpa using uB [] x
 ·exact Nat.zero_le _
def Ar.xr:List Ar→Prop
 | []=>True
 |a::l=>a.x.texts∧Ar.xr l
def Sm.oy (v:Sm):Prop:=v.x.texts∧(∀ a∈v.args,a.x.texts)∧v.x.size+Ar.a7 v.args<1000000
theorem lJ {l nx:List aF} {n:Nat} (hn:n=l.length) (h:l.length+nx.length≤1000000000) {g:Tag} (o:List (List D)) :
 iu 1 16 (.slice (.tok 0) 1 (l.map encStr)) (.slice g 1 (nx.map encStr)) ⟨o,[some n]⟩=some (.slice (.tok 0) 1 ((l++nx).map encStr),⟨o,[some (l++nx).length]⟩):=by
 subst hn
 have:=qm (size:=1) (bytes:=16) (t:=0) (rows:=l.map encStr) (new:=nx.map encStr) (g:=g) (s:=⟨o,[some l.length]⟩) (by simp only[List.length_map];unfold bp;omega) (by simp)
 rw[this]
 simp
theorem Dy {v:Sm} (hv:v.oy) (s:St):aE Tryz.prog tj [.agg (aS v)] s (.slice .shared 1 (v.said.map encStr)) s:=by
 refine aE.pure ?_ (by simp only[D.bK,D.ok,pI];rfl) (by simp only[D.ok,Tag.ok,fe];rfl) s
 obtain⟨Dz,vD,dO⟩:=hv
 obtain⟨R,hG⟩ : ∃ R,v.said=R:=⟨_,rfl⟩
 rw[hG]
 simp only[Sm.said]at hG
 have hlen:v.args.length<1000000000:=by have:=Ar.dJ v.args;omega
 have hx:=fun s=>ox (x:=v.x) (by omega) Dz s
 have P0:=me v.x
 unfold S0
 refine aE.go II rfl fun B Q hB hQ=>?_
 have⟨hD,gA,gB,gC⟩:=cd
 have gB:17≤bp:=by unfold bp;omega
 by_cases hb:(v.kind != 10 && v.name != [])=true
 ·simp only [Sm.u7,hb,if_true]at hG
  rw[Bool.and_eq_true]at hb
  obtain⟨b1,b2⟩:=hb
  have fi:=lJ (l:= [v.name]) (nx:=v.x.names) (n:=1) rfl (by simp;omega) (g:= .shared)
  simp only[List.map_append,List.map_cons,List.map_nil,encStr]at fi
  have b3:(v.name == [])=false:=by simpa using b2
  repeat' (first
 |simp only[go_sem,hD,gA,gB,gC,b1,b2,b3,fi]
 |(with_reducible refine CU (hx _) ?_)
 | (with_reducible refine aD hQ ?_;exact bx))
  refine dW 1 1 ?_ ?_ (bl.ind (ι:=List Ar×Nat×List aF×Nat) (fun i=>v.args.drop i.2.1=i.1∧Ar.said i.2.2.1 i.1=R∧i.2.2.1.length+Ar.a7 i.1≤2000000∧i.2.2.2=i.2.2.1.length) (fun i=>i.1.length)
   (fun i=> [(3, .slice (.tok 0) 1 (i.2.2.1.map encStr)),(1, .ptr 0 0),(25, .slice .shared 6 (v.args.map eR)),(26, .int .i64 (v.args.length:Int)),(27, .int .i64 (i.2.1:Int))]) (fun i=>⟨[aS v],[some i.2.2.2]⟩) ?_ (v.args,0,([v.name]++v.x.names),(v.x.names.length+1)) ⟨rfl,hG,by simp at P0 ⊢;omega,by simp⟩)
  ·(simp only[go_sem,hD,gA,gB,gC,List.map_append,List.map_cons,List.map_nil,encStr];try exact bO)
  ·(simp only[go_sem,hD,gA,gB,gC,List.map_append,List.map_cons,List.map_nil,encStr];try exact bO)
  rintro⟨rest,k,out,n'⟩ ⟨h1,h2,h3,h4⟩ IH
  dsimp only at h1 h2 h3 h4
  subst h4
  cases rest with
  |nil=>
   have hD:=drop_nil h1
   simp only[Ar.said]at h2
   subst h2
   repeat' (first
 |simp only[go_sem,hD,gA,gB,gC]
 | (with_reducible refine aD hQ ?_;exact bx))
  | cons a rest=>
   obtain⟨gA,g2,hD,g4⟩:=drop_cons h1
   have cH:k<4611686018427387904:=by omega
   simp only[Ar.said]at h2
   simp only[Ar.a7]at h3
   have yH:=fun s=>ox (x:=a.x) (by have:=Ar.da (List.mem_of_getElem? gA);omega) (vD a (List.mem_of_getElem? gA)) s
   have hl:=me a.x
   have gB:(out.length+1)*17≤bp:=by unfold bp;omega
   rcases Bool.eq_false_or_eq_true a.ref with b1|b1
   ·simp only [b1,if_true]at h2
    have fi:=lJ (l:=out++ [a.name]) (nx:=a.x.names) (n:=out.length+1) (by simp) (by simp;omega) (g:= .shared)
    simp only[List.map_append,List.map_cons,List.map_nil,encStr]at fi
    repeat' (first
 |simp only[go_sem,hD,gA,gB,gC,b1,fi]
 |(with_reducible refine CU (yH _) ?_)
 | (with_reducible refine aD hQ ?_;exact bx))
    refine dW 1 1 ?_ ?_ (IH (rest,k+1,out++ [a.name]++a.x.names,_) ⟨g2,h2,by simp;omega,by simp<;>omega⟩ (Nat.lt_succ_self _))
    ·(simp only[go_sem,hD,gA,gB,gC,aH cH,List.map_append,List.map_cons,List.map_nil,encStr];try exact bO)
    ·(simp only[go_sem,hD,gA,gB,gC,aH cH,List.map_append,List.map_cons,List.map_nil,encStr];try exact bO)
   ·simp only [b1,Bool.false_eq_true,if_false]at h2
    have fi:=lJ (l:=out) (nx:=a.x.names) rfl (by omega) (g:= .shared)
    repeat' (first
 |simp only[go_sem,hD,gA,gB,gC,b1,fi]
 |(with_reducible refine CU (yH _) ?_)
 | (with_reducible refine aD hQ ?_;exact bx))
    refine dW 1 1 ?_ ?_ (IH (rest,k+1,out++a.x.names,_) ⟨g2,h2,by simp;omega,by simp<;>omega⟩ (Nat.lt_succ_self _))
    ·(simp only[go_sem,hD,gA,gB,gC,aH cH];try exact bO)
    ·(simp only[go_sem,hD,gA,gB,gC,aH cH];try exact bO)
 ·simp only [Sm.u7,hb,Bool.false_eq_true,if_false,List.nil_append]at hG
  have tW:(v.kind != 10 && v.name != [])=false:=by simpa using hb
  obtain⟨nx,hnx⟩ : ∃ nx,nx=v.x.names:=⟨_,rfl⟩
  rw[← hnx]at hG P0
  simp only[← hnx]at hx
  by_cases Me:nx = []
  ·subst Me
   simp only[List.map_nil]at hx
   have fi : ∀ o:List (List D),iu 1 16 (.slice .full 0 []) (.slice .shared 1 []) ⟨o,[]⟩=some (.slice .full 0 [],⟨o,[]⟩):=fun o=>by simp[iu,bp]
   have HB:(v.kind != 10)=false∨(v.kind != 10)=true∧(v.name != [])=false:=by
    cases h1:(v.kind != 10)
    ·exact .inl rfl
    ·rw[h1]at tW;exact .inr ⟨rfl,by simpa using tW⟩
   rcases HB with b1|⟨b1,b2⟩
   ·rcases Bool.eq_false_or_eq_true (v.name != [])with b2 | b2
    all_goals
     have b3:(v.name == []) = !(v.name != []):=by simp only[bne,Bool.not_not]
     rw[b2]at b3
     repeat' (first
 |simp only[go_sem,hD,gA,gB,gC,b1,b2,b3,Bool.not_true,Bool.not_false,fi]
 |(with_reducible refine CU (hx _) ?_)
 | (with_reducible refine aD hQ ?_;simp only [aT,aV,bD,bE,go_sem,hD,gA,gB,gC];repeat' (first | exact Ok.out | with_reducible refine ju ?_ ?_ | (simp;done))))
    all_goals
     refine bl.s7 3 1 rfl ?_
     simp only[go_sem,hD,gA,gB,gC]
     refine fj 1 1 (bl.ind (ι:=List Ar×Nat×List aF×Nat) (fun i=>v.args.drop i.2.1=i.1∧Ar.said i.2.2.1 i.1=R∧i.2.2.1.length+Ar.a7 i.1≤2000000∧i.2.2.2=i.2.2.1.length) (fun i=>i.1.length)
      (fun i=> [(3, .slice (.tok 0) 1 (i.2.2.1.map encStr)),(1, .ptr 0 0),(25, .slice .shared 6 (v.args.map eR)),(26, .int .i64 (v.args.length:Int)),(27, .int .i64 (i.2.1:Int))]) (fun i=>⟨[aS v],[some i.2.2.2]⟩) ?_ (v.args,0,[],0) ⟨rfl,hG,by simp at P0 ⊢;omega,by simp⟩)
     rintro⟨rest,k,out,n'⟩ ⟨h1,h2,h3,h4⟩ IH
     dsimp only at h1 h2 h3 h4
     subst h4
     cases rest with
     |nil=>
      have hD:=drop_nil h1
      simp only[Ar.said]at h2
      subst h2
      repeat' (first
 |simp only[go_sem,hD,gA,gB,gC]
 |(with_reducible refine aD hQ ?_;exact bx))
     | cons a rest=>
      obtain⟨gA,g2,hD,g4⟩:=drop_cons h1
      have cH:k<4611686018427387904:=by omega
      simp only[Ar.said]at h2
      simp only[Ar.a7]at h3
      have yH:=fun s=>ox (x:=a.x) (by have:=Ar.da (List.mem_of_getElem? gA);omega) (vD a (List.mem_of_getElem? gA)) s
      have hl:=me a.x
      have gB:(out.length+1)*17≤bp:=by unfold bp;omega
      rcases Bool.eq_false_or_eq_true a.ref with b1|b1
      ·simp only [b1,if_true]at h2
       have fi:=lJ (l:=out++ [a.name]) (nx:=a.x.names) (n:=out.length+1) (by simp) (by simp;omega) (g:= .shared)
       simp only[List.map_append,List.map_cons,List.map_nil,encStr]at fi
       repeat' (first
 |simp only[go_sem,hD,gA,gB,gC,b1,fi]
 |(with_reducible refine CU (yH _) ?_)
 |(with_reducible refine aD hQ ?_;exact bx))
       refine dW 1 1 ?_ ?_ (IH (rest,k+1,out++ [a.name]++a.x.names,_) ⟨g2,h2,by simp;omega,by simp<;>omega⟩ (Nat.lt_succ_self _))
       ·(simp only[go_sem,hD,gA,gB,gC,aH cH,List.map_append,List.map_cons,List.map_nil,encStr];try exact bO)
       ·(simp only[go_sem,hD,gA,gB,gC,aH cH,List.map_append,List.map_cons,List.map_nil,encStr];try exact bO)
      ·simp only [b1,Bool.false_eq_true,if_false]at h2
       have fi:=lJ (l:=out) (nx:=a.x.names) rfl (by omega) (g:= .shared)
       repeat' (first
 |simp only[go_sem,hD,gA,gB,gC,b1,fi]
 |(with_reducible refine CU (yH _) ?_)
 | (with_reducible refine aD hQ ?_;exact bx))
       refine dW 1 1 ?_ ?_ (IH (rest,k+1,out++a.x.names,_) ⟨g2,h2,by simp;omega,by simp<;>omega⟩ (Nat.lt_succ_self _))
       ·(simp only[go_sem,hD,gA,gB,gC,aH cH];try exact bO)
       ·(simp only[go_sem,hD,gA,gB,gC,aH cH];try exact bO)
   ·have b3:(v.name == [])=true:=by simpa using b2
    repeat' (first
 |simp only[go_sem,hD,gA,gB,gC,b1,b2,b3,fi]
 |(with_reducible refine CU (hx _) ?_)
 | (with_reducible refine aD hQ ?_;exact bx))
    refine bl.s7 3 1 rfl ?_
    simp only[go_sem,hD,gA,gB,gC]
    refine fj 1 1 (bl.ind (ι:=List Ar×Nat×List aF×Nat) (fun i=>v.args.drop i.2.1=i.1∧Ar.said i.2.2.1 i.1=R∧i.2.2.1.length+Ar.a7 i.1≤2000000∧i.2.2.2=i.2.2.1.length) (fun i=>i.1.length)
     (fun i=> [(3, .slice (.tok 0) 1 (i.2.2.1.map encStr)),(1, .ptr 0 0),(25, .slice .shared 6 (v.args.map eR)),(26, .int .i64 (v.args.length:Int)),(27, .int .i64 (i.2.1:Int))]) (fun i=>⟨[aS v],[some i.2.2.2]⟩) ?_ (v.args,0,[],0) ⟨rfl,hG,by simp at P0 ⊢;omega,by simp⟩)
    rintro⟨rest,k,out,n'⟩ ⟨h1,h2,h3,h4⟩ IH
    dsimp only at h1 h2 h3 h4
    subst h4
    cases rest with
    |nil=>
     have hD:=drop_nil h1
     simp only[Ar.said]at h2
     subst h2
     repeat' (first
 |simp only[go_sem,hD,gA,gB,gC]
 | (with_reducible refine aD hQ ?_;exact bx))
    | cons a rest=>
     obtain⟨gA,g2,hD,g4⟩:=drop_cons h1
     have cH:k<4611686018427387904:=by omega
     simp only[Ar.said]at h2
     simp only[Ar.a7]at h3
     have yH:=fun s=>ox (x:=a.x) (by have:=Ar.da (List.mem_of_getElem? gA);omega) (vD a (List.mem_of_getElem? gA)) s
     have hl:=me a.x
     have gB:(out.length+1)*17≤bp:=by unfold bp;omega
     rcases Bool.eq_false_or_eq_true a.ref with b1|b1
     ·simp only [b1,if_true]at h2
      have fi:=lJ (l:=out++ [a.name]) (nx:=a.x.names) (n:=out.length+1) (by simp) (by simp;omega) (g:= .shared)
      simp only[List.map_append,List.map_cons,List.map_nil,encStr]at fi
      repeat' (first
 |simp only[go_sem,hD,gA,gB,gC,b1,fi]
 |(with_reducible refine CU (yH _) ?_)
 |(with_reducible refine aD hQ ?_;exact bx))
      refine dW 1 1 ?_ ?_ (IH (rest,k+1,out++ [a.name]++a.x.names,_) ⟨g2,h2,by simp;omega,by simp<;>omega⟩ (Nat.lt_succ_self _))
      ·(simp only[go_sem,hD,gA,gB,gC,aH cH,List.map_append,List.map_cons,List.map_nil,encStr];try exact bO)
      ·(simp only[go_sem,hD,gA,gB,gC,aH cH,List.map_append,List.map_cons,List.map_nil,encStr];try exact bO)
     ·simp only [b1,Bool.false_eq_true,if_false]at h2
      have fi:=lJ (l:=out) (nx:=a.x.names) rfl (by omega) (g:= .shared)
      repeat' (first
 |simp only[go_sem,hD,gA,gB,gC,b1,fi]
 |(with_reducible refine CU (yH _) ?_)
 | (with_reducible refine aD hQ ?_;exact bx))
      refine dW 1 1 ?_ ?_ (IH (rest,k+1,out++a.x.names,_) ⟨g2,h2,by simp;omega,by simp<;>omega⟩ (Nat.lt_succ_self _))
      ·(simp only[go_sem,hD,gA,gB,gC,aH cH];try exact bO)
      ·(simp only[go_sem,hD,gA,gB,gC,aH cH];try exact bO)
  ·have fi : ∀ o:List (List D),iu 1 16 (.slice .full 0 []) (.slice .shared 1 (nx.map encStr)) ⟨o,[]⟩=some (.slice (.tok 0) 1 (nx.map encStr),⟨o,[some nx.length]⟩):=fun o=>by
    have:nx.length*17≤bp:=by unfold bp;omega
    cases nx with
    |nil=>exact absurd rfl Me
    |cons a r=>simp only[List.length_cons]at this;simp[iu,this]
   have HB:(v.kind != 10)=false∨(v.kind != 10)=true∧(v.name != [])=false:=by
    cases h1:(v.kind != 10)
    ·exact .inl rfl
    ·rw[h1]at tW;exact .inr ⟨rfl,by simpa using tW⟩
   rcases HB with b1|⟨b1,b2⟩
   ·rcases Bool.eq_false_or_eq_true (v.name != [])with b2 | b2
    all_goals
     have b3:(v.name == []) = !(v.name != []):=by simp only[bne,Bool.not_not]
     rw[b2]at b3
     repeat' (first
 |simp only[go_sem,hD,gA,gB,gC,b1,b2,b3,Bool.not_true,Bool.not_false,fi]
 |(with_reducible refine CU (hx _) ?_)
 | (with_reducible refine aD hQ ?_;simp only [aT,aV,bD,bE,go_sem,hD,gA,gB,gC];repeat' (first | exact Ok.out | with_reducible refine ju ?_ ?_ | (simp;done))))
    all_goals
     refine fj 1 1 (bl.ind (ι:=List Ar×Nat×List aF×Nat) (fun i=>v.args.drop i.2.1=i.1∧Ar.said i.2.2.1 i.1=R∧i.2.2.1.length+Ar.a7 i.1≤2000000∧i.2.2.2=i.2.2.1.length) (fun i=>i.1.length)
      (fun i=> [(3, .slice (.tok 0) 1 (i.2.2.1.map encStr)),(1, .ptr 0 0),(25, .slice .shared 6 (v.args.map eR)),(26, .int .i64 (v.args.length:Int)),(27, .int .i64 (i.2.1:Int))]) (fun i=>⟨[aS v],[some i.2.2.2]⟩) ?_ (v.args,0,nx,_) ⟨rfl,hG,by simp at P0 ⊢;omega,by simp⟩)
     rintro⟨rest,k,out,n'⟩ ⟨h1,h2,h3,h4⟩ IH
     dsimp only at h1 h2 h3 h4
     subst h4
     cases rest with
     |nil=>
      have hD:=drop_nil h1
      simp only[Ar.said]at h2
      subst h2
      repeat' (first
 |simp only[go_sem,hD,gA,gB,gC]
 |(with_reducible refine aD hQ ?_;exact bx))
     | cons a rest=>
      obtain⟨gA,g2,hD,g4⟩:=drop_cons h1
      have cH:k<4611686018427387904:=by omega
      simp only[Ar.said]at h2
      simp only[Ar.a7]at h3
      have yH:=fun s=>ox (x:=a.x) (by have:=Ar.da (List.mem_of_getElem? gA);omega) (vD a (List.mem_of_getElem? gA)) s
      have hl:=me a.x
      have gB:(out.length+1)*17≤bp:=by unfold bp;omega
      rcases Bool.eq_false_or_eq_true a.ref with b1|b1
      ·simp only [b1,if_true]at h2
       have fi:=lJ (l:=out++ [a.name]) (nx:=a.x.names) (n:=out.length+1) (by simp) (by simp;omega) (g:= .shared)
       simp only[List.map_append,List.map_cons,List.map_nil,encStr]at fi
       repeat' (first
 |simp only[go_sem,hD,gA,gB,gC,b1,fi]
 |(with_reducible refine CU (yH _) ?_)
 |(with_reducible refine aD hQ ?_;exact bx))
       refine dW 1 1 ?_ ?_ (IH (rest,k+1,out++ [a.name]++a.x.names,_) ⟨g2,h2,by simp;omega,by simp<;>omega⟩ (Nat.lt_succ_self _))
       ·(simp only[go_sem,hD,gA,gB,gC,aH cH,List.map_append,List.map_cons,List.map_nil,encStr];try exact bO)
       ·(simp only[go_sem,hD,gA,gB,gC,aH cH,List.map_append,List.map_cons,List.map_nil,encStr];try exact bO)
      ·simp only [b1,Bool.false_eq_true,if_false]at h2
       have fi:=lJ (l:=out) (nx:=a.x.names) rfl (by omega) (g:= .shared)
       repeat' (first
 |simp only[go_sem,hD,gA,gB,gC,b1,fi]
 |(with_reducible refine CU (yH _) ?_)
 | (with_reducible refine aD hQ ?_;exact bx))
       refine dW 1 1 ?_ ?_ (IH (rest,k+1,out++a.x.names,_) ⟨g2,h2,by simp;omega,by simp<;>omega⟩ (Nat.lt_succ_self _))
       ·(simp only[go_sem,hD,gA,gB,gC,aH cH];try exact bO)
       ·(simp only[go_sem,hD,gA,gB,gC,aH cH];try exact bO)
   ·have b3:(v.name == [])=true:=by simpa using b2
    repeat' (first
 |simp only[go_sem,hD,gA,gB,gC,b1,b2,b3,fi]
 |(with_reducible refine CU (hx _) ?_)
 | (with_reducible refine aD hQ ?_;exact bx))
    refine fj 1 1 (bl.ind (ι:=List Ar×Nat×List aF×Nat) (fun i=>v.args.drop i.2.1=i.1∧Ar.said i.2.2.1 i.1=R∧i.2.2.1.length+Ar.a7 i.1≤2000000∧i.2.2.2=i.2.2.1.length) (fun i=>i.1.length)
     (fun i=> [(3, .slice (.tok 0) 1 (i.2.2.1.map encStr)),(1, .ptr 0 0),(25, .slice .shared 6 (v.args.map eR)),(26, .int .i64 (v.args.length:Int)),(27, .int .i64 (i.2.1:Int))]) (fun i=>⟨[aS v],[some i.2.2.2]⟩) ?_ (v.args,0,nx,_) ⟨rfl,hG,by simp at P0 ⊢;omega,by simp⟩)
    rintro⟨rest,k,out,n'⟩ ⟨h1,h2,h3,h4⟩ IH
    dsimp only at h1 h2 h3 h4
    subst h4
    cases rest with
    |nil=>
     have hD:=drop_nil h1
     simp only[Ar.said]at h2
     subst h2
     repeat' (first
 |simp only[go_sem,hD,gA,gB,gC]
 | (with_reducible refine aD hQ ?_;exact bx))
    | cons a rest=>
     obtain⟨gA,g2,hD,g4⟩:=drop_cons h1
     have cH:k<4611686018427387904:=by omega
     simp only[Ar.said]at h2
     simp only[Ar.a7]at h3
     have yH:=fun s=>ox (x:=a.x) (by have:=Ar.da (List.mem_of_getElem? gA);omega) (vD a (List.mem_of_getElem? gA)) s
     have hl:=me a.x
     have gB:(out.length+1)*17≤bp:=by unfold bp;omega
     rcases Bool.eq_false_or_eq_true a.ref with b1|b1
     ·simp only [b1,if_true]at h2
      have fi:=lJ (l:=out++ [a.name]) (nx:=a.x.names) (n:=out.length+1) (by simp) (by simp;omega) (g:= .shared)
      simp only[List.map_append,List.map_cons,List.map_nil,encStr]at fi
      repeat' (first
 |simp only[go_sem,hD,gA,gB,gC,b1,fi]
 |(with_reducible refine CU (yH _) ?_)
 |(with_reducible refine aD hQ ?_;exact bx))
      refine dW 1 1 ?_ ?_ (IH (rest,k+1,out++ [a.name]++a.x.names,_) ⟨g2,h2,by simp;omega,by simp<;>omega⟩ (Nat.lt_succ_self _))
      ·(simp only[go_sem,hD,gA,gB,gC,aH cH,List.map_append,List.map_cons,List.map_nil,encStr];try exact bO)
      ·(simp only[go_sem,hD,gA,gB,gC,aH cH,List.map_append,List.map_cons,List.map_nil,encStr];try exact bO)
     ·simp only [b1,Bool.false_eq_true,if_false]at h2
      have fi:=lJ (l:=out) (nx:=a.x.names) rfl (by omega) (g:= .shared)
      repeat' (first
 |simp only[go_sem,hD,gA,gB,gC,b1,fi]
 |(with_reducible refine CU (yH _) ?_)
 |(with_reducible refine aD hQ ?_;exact bx))
      refine dW 1 1 ?_ ?_ (IH (rest,k+1,out++a.x.names,_) ⟨g2,h2,by simp;omega,by simp<;>omega⟩ (Nat.lt_succ_self _))
      ·(simp only[go_sem,hD,gA,gB,gC,aH cH];try exact bO)
      ·(simp only[go_sem,hD,gA,gB,gC,aH cH];try exact bO)
set_option maxRecDepth 8000
open Go.Proofs
theorem Hr {size bytes z:Nat} {g:Tag} {rows:List (List D)} {s:St} (h:rows.length*(bytes+1)≤bp) (hr:rows≠ []) :
 iu size bytes (.slice .full z []) (.slice g size rows) s=some (.slice (.tok s.ay.length) size rows,⟨s.ah,s.ay++ [some rows.length]⟩):=by
 cases rows with
 |nil=>exact absurd rfl hr
 |cons r l=>simp only[iu];simp at h ⊢;exact h
theorem yI {l:List aF} (hl:l.length<1073741824) (g:Tag) (s:St):aE Tryz.prog fH [.slice g 1 (l.map encStr)] s (.slice .shared 1 (l.map encStr)) s:=by
 refine bW.o5 (.cons (Wk.shared _ _ _) .nil) (aE.pure ?_ (by simp[D.bK,D.ok,Tag.ok,fe]) (by simp[D.ok,Tag.ok,fe]) s)
 unfold S0
 refine aE.go mX rfl fun B Q hB hQ=>?_
 have⟨hD,gA,gB,gC⟩:=cd
 cases l with
 |nil=>
  repeat' (first
 |simp only[go_sem,hD,gA,gB,gC]
 |(with_reducible refine aD hQ ?_;exact bx))
  refine FG (fun _=>?_) ?_
  ·repeat' (first
 |simp only[go_sem,hD,gA,gB,gC,iu,true_or,Nat.zero_le]
 |(with_reducible refine aD hQ ?_;exact bx))
  ·repeat' (first
 |simp only[go_sem,hD,gA,gB,gC,iu,true_or,Nat.zero_le]
 |(with_reducible refine aD hQ ?_;exact bx))
 |cons x l=>
  have e:((x::l).map encStr).length*(16+1)≤bp:=by simp only[List.length_map,bp];omega
  have e2:=fun s=>Hr (size:=1) (z:=1) (g:= .shared) (s:=s) e (by simp)
  simp only[List.map_cons,encStr]at e2
  repeat' (first
 |simp only[go_sem,hD,gA,gB,gC,e2]
 |(with_reducible refine aD hQ ?_;exact bx))
theorem Zm {l:List Pm} (hl:l.length<1073741824) (g:Tag) (s:St):aE Tryz.prog mL [.slice g 2 (l.map gp)] s (.slice .shared 2 (l.map gp)) s:=by
 refine bW.o5 (.cons (Wk.shared _ _ _) .nil) (aE.pure ?_ (by simp[D.bK,D.ok,Tag.ok,SS]) (by simp[D.ok,Tag.ok,SS]) s)
 unfold S0
 refine aE.go v8 rfl fun B Q hB hQ=>?_
 have⟨hD,gA,gB,gC⟩:=cd
 cases l with
 |nil=>
  repeat' (first
 |simp only[go_sem,hD,gA,gB,gC]
 |(with_reducible refine aD hQ ?_;exact bx))
  refine FG (fun _=>?_) ?_
  ·repeat' (first
 |simp only[go_sem,hD,gA,gB,gC,iu,true_or,Nat.zero_le]
 |(with_reducible refine aD hQ ?_;exact bx))
  ·repeat' (first
 |simp only[go_sem,hD,gA,gB,gC,iu,true_or,Nat.zero_le]
 |(with_reducible refine aD hQ ?_;exact bx))
 |cons x l=>
  have e:((x::l).map gp).length*(24+1)≤bp:=by simp only[List.length_map,bp];omega
  have e2:=fun s=>Hr (size:=2) (z:=2) (g:= .shared) (s:=s) e (by simp)
  simp only[List.map_cons,encStr]at e2
  repeat' (first
 |simp only[go_sem,hD,gA,gB,gC,e2]
 |(with_reducible refine aD hQ ?_;exact bx))
theorem ag7 : ∀ n,n<1073741824→∀ x:Ex,x.size≤n→aE Tryz.prog nN [.agg (bQ x)] S0 (.agg (bQ x)) S0:=by
 intro n
 induction n with
 |zero=>rintro _ ⟨op,m,name,kids⟩ h;simp only[Ex.size]at h;omega
 |succ n ihn=>
 rintro hn ⟨op,m,name,kids⟩ hx
 have hk : ∀ y∈kids,∀ s,aE Tryz.prog nN [.agg (bQ y)] s (.agg (bQ y)) s:=fun y hy s=>
  (ihn (by omega) y (by simp only[Ex.size]at hx;have:=Ex.da hy;omega)).pure (by simp[D.bK,D.ok,jN]) (by simp[D.ok,jN]) s
 have hlen:kids.length<1073741824:=by simp only[Ex.size]at hx;have:=Ex.dJ kids;omega
 unfold S0
 refine aE.go KH rfl fun B Q hB hQ=>?_
 have⟨hD,gA,gB,gC⟩:=cd
 repeat' (first
 |simp only[go_sem,hD,gA,gB,gC]
 |(with_reducible refine aD hQ ?_;exact bx))
 refine bl.ur 0 3 4 rfl rfl ?_
 simp only[go_sem,hD,gA,gB,gC]
 refine fj 2 1 (bl.ind (ι:=List Ex×Nat×List Ex) (fun i=>kids.drop i.2.1=i.1∧i.2.1=i.2.2.length∧i.2.2++i.1=kids) (fun i=>i.1.length)
  (fun i=> [(1, .ptr 0 0),(2, .ptr 1 0),(9, .slice .shared 4 (kids.map bQ)),(10, .int .i64 (kids.length:Int)),(11, .int .i64 (i.2.1:Int))])
  (fun i=>⟨[[.int .i64 op, .int .i64 m, .str name, .slice (.tok 0) 4 (i.2.2.map bQ)],bQ qn],[some i.2.1]⟩) ?_ (kids,0,[]) ⟨rfl,rfl,rfl⟩)
 rintro⟨rest,k,acc⟩ ⟨h1,h2,h3⟩ IH
 dsimp only at h1 h2 h3
 subst h2
 cases rest with
 |nil=>
  have hD:=drop_nil h1
  rw[List.append_nil]at h3
  subst h3
  repeat' (first
 |simp only[go_sem,hD,gA,gB,gC]
 |(with_reducible refine aD hQ ?_;exact bx))
 |cons y rest=>
  obtain⟨gA,g2,hD,g4⟩:=drop_cons h1
  have gB:acc.length<4611686018427387904:=by omega
  have fV:(acc.length+1)*57≤bp:=by simp only[bp];omega
  have hy:=hk y (List.mem_of_getElem? gA)
  repeat' (first
 |simp only[go_sem,hD,gA,gB,gC,fV]
 |(with_reducible refine CU (hy _) ?_)
 |(with_reducible refine aD hQ ?_;exact bx))
  refine fj 2 1 (IH (rest,acc.length+1,acc++ [y]) ⟨g2,by simp,by simp only[List.append_assoc,List.cons_append,List.nil_append];exact h3⟩ (Nat.lt_succ_self _))
theorem Wb {x:Ex} (h:x.size<1073741824) (s:St):aE Tryz.prog nN [.agg (bQ x)] s (.agg (bQ x)) s:=
 (ag7 x.size h x (Nat.le_refl _)).pure (by simp[D.bK,D.ok,jN]) (by simp[D.ok,jN]) s
set_option maxRecDepth 8000
open Go.Proofs
abbrev abQ (b:Bool) (N:Nat):Prop:=∀ l:List Sm,Sm.a7 l<N→∀ n:Nat,n+Sm.a7 l<1073741824→∀ s:St,
 aE Tryz.prog lG [.slice .shared 13 (l.map aS), .int .i64 (n:Int), .bool b] s (.tuple [.slice .shared 13 ((Sm.cW b n l).1.map aS), .int .i64 ((Sm.cW b n l).2:Int)]) s
theorem Zn {N:Nat} (ih:abQ true N) (l:List Sm) (hl:Sm.a7 l<N+1) (n:Nat) (hn:n+Sm.a7 l<1073741824) :
 aE Tryz.prog lG [.slice .shared 13 (l.map aS), .int .i64 (n:Int), .bool true] S0 (.tuple [.slice .shared 13 ((Sm.cW true n l).1.map aS), .int .i64 ((Sm.cW true n l).2:Int)]) S0:=by
 unfold S0
 refine aE.go G7 rfl fun B Q hB hQ=>?_
 have⟨hD,gA,gB,gC⟩:=cd
 repeat' (first
 |simp only[go_sem,hD,gA,gB,gC]
 |(with_reducible refine aD hQ ?_;exact bx))
 have hlen:l.length<1073741824:=by have:=Sm.dJ l;omega
 refine bl.s7 8 13 rfl ?_
 simp only[go_sem,hD,gA,gB,gC]
 refine fj 0 1 (bl.ind (ι:=List Sm×Nat×List Sm×Nat) (fun i=>l.drop i.2.1=i.1∧i.2.1=i.2.2.1.length∧Sm.cW true n l=(i.2.2.1++(Sm.cW true i.2.2.2 i.1).1,(Sm.cW true i.2.2.2 i.1).2)∧i.2.2.2+Sm.a7 i.1≤n+Sm.a7 l) (fun i=>i.1.length)
  (fun i=> [(1, .int .i64 (i.2.2.2:Int)),(2, .bool true),(8, .slice (.tok 0) 13 (i.2.2.1.map aS)),(14, .slice .shared 13 (l.map aS)),(15, .int .i64 (l.length:Int)),(16, .int .i64 (i.2.1:Int))])
  (fun i=>⟨[],[some i.2.1]⟩) ?_ (l,0,[],n) ⟨rfl,rfl,rfl,Nat.le_refl _⟩)
 rintro⟨rest,k,acc,m⟩ ⟨h1,h2,h3,h4⟩ IH
 dsimp only at h1 h2 h3 h4
 subst h2
 cases rest with
 |nil=>
  have hD:=drop_nil h1
  simp only[Sm.cW,List.append_nil]at h3
  rw[h3]at hQ
  repeat' (first
 |simp only[go_sem,hD,gA,gB,gC]
 |(with_reducible refine aD hQ ?_;exact bx))
 |cons y rest=>
  obtain⟨gA,g2,hD,g4⟩:=drop_cons h1
  simp only[Sm.a7]at h4 hl
  have hm:m<4611686018427387904:=by omega
  have hk:acc.length<4611686018427387904:=by omega
  have dO:y.size≤N:=by have:=Sm.da (List.mem_of_getElem? gA);omega
  obtain⟨id,kind,labels,name,proc,x,has,args,aM,aL⟩:=y
  simp only[Sm.size]at dO h4
  have fV:(acc.length+1)*209≤bp:=by simp only[bp];omega
  have hx:=fun s=>Wb (x:=x) (by omega) s
  simp only[iz]at hx
  have nu:=fun g s=>yI (l:=labels) (by omega) g s
  have s6:=Ar.dJ args
  repeat' (first
 |simp only[go_sem,hD,gA,gB,gC,aH hm]
 |(with_reducible refine CU (nu _ _) ?_)
 |(with_reducible refine CU (hx _) ?_)
 | (with_reducible refine aD hQ ?_;exact bx))
  refine bl.ur 1 10 6 rfl rfl ?_
  simp only[go_sem,hD,gA,gB,gC]
  refine fj 2 2 (bl.ind (ι:=List Ar×Nat×List Ar) (fun i=>args.drop i.2.1=i.1∧i.2.1=i.2.2.length∧i.2.2++i.1=args) (fun i=>i.1.length)
   (fun i=> [(1, .int .i64 ((m+1:Nat):Int)),(2, .bool true),(8, .slice (.tok 0) 13 (acc.map aS)),(10, .ptr 0 0),(11, .ptr 1 0),(14, .slice .shared 13 (l.map aS)),(15, .int .i64 (l.length:Int)),(16, .int .i64 (acc.length:Int)),
    (36, .slice .shared 6 (args.map eR)),(37, .int .i64 (args.length:Int)),(38, .int .i64 (i.2.1:Int))])
   (fun i=>⟨[aS ⟨id,kind,labels,name,proc,x,has,args,aM,aL⟩,[.int .i64 ((m+1:Nat):Int), .int .i64 kind, .slice .shared 1 (labels.map encStr), .str name, .str proc, .int .i64 x.op, .int .i64 x.n, .str x.name, .slice .shared 4 (x.kids.map bQ), .bool has, .slice (.tok 1) 6 (i.2.2.map eR), .slice .shared 13 (aM.map aS), .slice .shared 13 (aL.map aS)]],[some acc.length,some i.2.1]⟩) ?_ (args,0,[]) ⟨rfl,rfl,rfl⟩)
  rintro⟨BG,ka,xJ⟩ ⟨j1,j2,j3⟩ IHa
  dsimp only at j1 j2 j3
  subst j2
  cases BG with
  |nil=>
   have hD:=drop_nil j1
   rw[List.append_nil]at j3
   subst j3
   have b1:=Sm.pE true (m+1) aM
   have b2:=Sm.pE true (Sm.cW true (m+1) aM).2 aL
   have c1:=ih aM (by omega) (m+1) (by omega)
   have c2:=ih aL (by omega) (Sm.cW true (m+1) aM).2 (by omega)
   repeat' (first
 |simp only[go_sem,hD,gA,gB,gC,fV]
 |(with_reducible refine CU (c1 _) ?_)
 |(with_reducible refine CU (c2 _) ?_)
 | (with_reducible refine aD hQ ?_;exact bx))
   refine dW 0 1 ?_ ?_ (IH (rest,acc.length+1,acc++ [(Sm.num true m ⟨id,kind,labels,name,proc,x,has,xJ,aM,aL⟩).1],(Sm.num true m ⟨id,kind,labels,name,proc,x,has,xJ,aM,aL⟩).2) ⟨g2,by simp,by rw[h3];simp[Sm.cW],by simp only[Sm.num];omega⟩ (Nat.lt_succ_self _))
   ·(simp only[go_sem,hD,gA,gB,gC,aH hk,Sm.num];try exact bO)
   ·(simp only[go_sem,hD,gA,gB,gC,aH hk,Sm.num];try exact bO)
  |cons a BG=>
   obtain⟨gA,g2,hD,g4⟩:=drop_cons j1
   have ha:a.x.size<1073741824:=by have:=Ar.da (List.mem_of_getElem? gA);omega
   have C4:xJ.length<4611686018427387904:=by omega
   have Hs:(xJ.length+1)*81≤bp:=by simp only[bp];omega
   have Wc:=fun s=>Wb ha s
   simp only[iz]at Wc
   obtain⟨Zo,To,ax⟩:=a
   repeat' (first
 |simp only[go_sem,hD,gA,gB,gC,Hs]
 |(with_reducible refine CU (Wc _) ?_)
 | (with_reducible refine aD hQ ?_;exact bx))
   refine dW 2 2 ?_ ?_ (IHa (BG,xJ.length+1,xJ++ [⟨Zo,To,ax⟩]) ⟨g2,by simp,by simp only[List.append_assoc,List.cons_append,List.nil_append];exact j3⟩ (Nat.lt_succ_self _))
   ·(simp only[go_sem,hD,gA,gB,gC,aH C4];try exact bO)
   ·(simp only[go_sem,hD,gA,gB,gC,aH C4];try exact bO)
theorem adt : ∀ N,abQ true N:=by
 intro N
 induction N with
 |zero=>intro l hl;exact absurd hl (Nat.not_lt_zero _)
 |succ N ih=>
  intro l hl n hn s
  exact(Zn ih l hl n hn).pure (by simp[D.bK,D.ok,Tag.ok,nz]) (by simp[D.bK,D.ok,Tag.ok,nz]) s
theorem ak1 {l:List Sm} {n:Nat} (h:n+Sm.a7 l<1073741824) (s:St) :
 aE Tryz.prog lG [.slice .shared 13 (l.map aS), .int .i64 (n:Int), .bool true] s (.tuple [.slice .shared 13 ((Sm.cW true n l).1.map aS), .int .i64 ((Sm.cW true n l).2:Int)]) s:=
 adt _ l (Nat.lt_succ_self _) n h s
theorem Zp {p:Pg} (hp:p.size<1073741824):aE Tryz.prog rR [.agg (bJ p)] S0 (.agg (bJ p.number)) S0:=by
 obtain⟨globals,procs⟩:=p
 simp only[Pg.size]at hp
 have hlen:procs.length<1073741824:=by have:=Pc.dJ procs;omega
 have hcg:=fun g s=>yI (l:=globals) (by omega) g s
 unfold S0
 refine aE.go G6 rfl fun B Q hB hQ=>?_
 have⟨hD,gA,gB,gC⟩:=cd
 repeat' (first
 |simp only[go_sem,hD,gA,gB,gC]
 |(with_reducible refine CU (hcg _ _) ?_)
 |(with_reducible first|refine bg fun hc=>?_|refine bh fun hc=>?_|refine bj (fun hc=>?_) fun hc=>?_)<;>(try simp only[hc,bs,↓reduceIte]at h)<;>try simp only[hc]
 |(with_reducible refine aD hQ ?_;exact bx))
 refine bl.ur 2 1 5 rfl rfl ?_
 simp only[go_sem,hD,gA,gB,gC]
 refine fj 3 1 (bl.ind (ι:=List Pc×Nat×List Pc×Nat) (fun i=>procs.drop i.2.1=i.1∧i.2.1=i.2.2.1.length∧Pc.cW 0 procs=i.2.2.1++Pc.cW i.2.2.2 i.1∧i.2.2.2+Pc.a7 i.1≤Pc.a7 procs) (fun i=>i.1.length)
  (fun i=> [(2, .ptr 1 0),(3, .int .i64 (i.2.2.2:Int)),(4, .ptr 2 0),(13, .slice .shared 5 (procs.map bG)),(14, .int .i64 (procs.length:Int)),(15, .int .i64 (i.2.1:Int))])
  (fun i=>⟨[bJ ⟨globals,procs⟩,bJ pg0,[.slice .shared 1 (globals.map encStr), .slice (.tok 0) 5 (i.2.2.1.map bG)]],[some i.2.1]⟩) ?_ (procs,0,[],0) ⟨rfl,rfl,rfl,by dsimp only;omega⟩)
 rintro⟨rest,k,acc,m⟩ ⟨h1,h2,h3,h4⟩ IH
 dsimp only at h1 h2 h3 h4
 subst h2
 cases rest with
 |nil=>
  have hD:=drop_nil h1
  simp only[Pc.cW,List.append_nil]at h3
  subst h3
  repeat' (first
 |simp only[go_sem,hD,gA,gB,gC,Pg.number]
 |(with_reducible first|refine bg fun hc=>?_|refine bh fun hc=>?_|refine bj (fun hc=>?_) fun hc=>?_)<;>(try simp only[hc,bs,↓reduceIte]at h)<;>try simp only[hc]
 |(with_reducible refine aD hQ ?_;simp only[aT,aV,bD,bE,go_sem,hD,gA,gB,gC,Pg.number];try exact bX))
 |cons y rest=>
  obtain⟨gA,g2,hD,g4⟩:=drop_cons h1
  simp only[Pc.a7]at h4
  have dO:=Pc.da (List.mem_of_getElem? gA)
  obtain⟨name,params,vars,body,fin⟩:=y
  simp only[Pc.size]at dO h4
  have hk:acc.length<4611686018427387904:=by omega
  have fV:(acc.length+1)*113≤bp:=by simp only[bp];omega
  have c1:=fun g s=>Zm (l:=params) (by omega) g s
  have c2:=fun g s=>yI (l:=vars) (by omega) g s
  have c3:=fun g s=>yI (l:=fin) (by omega) g s
  have c4:=fun s=>ak1 (l:=body) (n:=m) (by omega) s
  have b1:=Sm.pE true m body
  repeat' (first
 |simp only[go_sem,hD,gA,gB,gC,fV]
 |(with_reducible refine CU (c1 _ _) ?_)
 |(with_reducible refine CU (c2 _ _) ?_)
 |(with_reducible refine CU (c3 _ _) ?_)
 |(with_reducible refine CU (c4 _) ?_)
 |(with_reducible refine aD hQ ?_;exact bx))
  refine dW 3 1 ?_ ?_ (IH (rest,acc.length+1,acc++ [⟨name,params,vars,(Sm.cW true m body).1,fin⟩],(Sm.cW true m body).2) ⟨g2,by simp,by rw[h3];simp[Pc.cW],by dsimp only;omega⟩ (Nat.lt_succ_self _))
  ·(simp only[go_sem,hD,gA,gB,gC,aH hk];try exact bO)
  ·(simp only[go_sem,hD,gA,gB,gC,aH hk];try exact bO)
theorem Zq {p q:Pg} (h:p.As=some q) (s:St):aE Tryz.prog rR [.agg (bJ p)] s (.agg (bJ q)) s:=by
 unfold Pg.As at h
 split at h
 ·cases h;exact(Zp ‹_›).pure (by simp[D.bK,D.ok,jh]) (by simp[D.ok,jh]) s
 ·cases h
set_option maxRecDepth 8000
open Go.Proofs
def atN (x:aF):List aF→Bool
 | []=>false
 |s::l=>if x==s then true else atN x l
def rK (pre:List aF):List aF→Bool
 | []=>false
 |s::l=>if fv pre s then true else rK (pre++ [s]) l
def eZ (l:List aF):Bool:=rK [] l
theorem Wd {l:List aF} {k:Nat} {a:aF} (h:l[k]? = some a):l.take (k+1)=l.take k++ [a]:=by rw[List.take_add_one,h];rfl
theorem F0 {l:List aF} (hl:l.length<4611686018427387904) (g:Tag) (s:St):aE Tryz.prog pw [.slice g 1 (l.map encStr)] s (.bool (eZ l)) s:=by
 refine aE.wk1 (d':= .slice .shared 1 (l.map encStr)) ?_ (Wk.shared _ _ _)
 refine aE.pure ?_ (by simp[D.bK,D.ok,Tag.ok,fe]) rfl s
 generalize h:eZ l=p
 simp only[eZ]at h
 unfold S0
 refine aE.go Hb rfl fun B Q hB hQ=>?_
 have⟨hD,gA,gB,gC⟩:=cd
 repeat' (first
 |simp only[go_sem,hD,gA,gB,gC]
 |(with_reducible first|refine bg fun hc=>?_|refine bh fun hc=>?_|refine bj (fun hc=>?_) fun hc=>?_)<;>(try simp only[hc,bs,↓reduceIte]at h)<;>try simp only[hc]
 |(with_reducible refine aD hQ ?_;exact fM))
 refine fj 0 0 (bl.ind (ι:=List aF×Nat) (fun i=>l.drop i.2=i.1∧rK (l.take i.2) i.1=p) (fun i=>i.1.length)
  (fun i=> [(0, .slice .shared 1 (l.map encStr)),(5, .slice .shared 1 (l.map encStr)),(6, .int .i64 (l.length:Int)),(7, .int .i64 (i.2:Int))]) (fun i=>⟨[],[]⟩) ?_ (l,0) ⟨rfl,h⟩)
 rintro⟨rest,k⟩ ⟨h1,h⟩ IH
 dsimp only at h1 h
 cases rest with
 |nil=>
  have hD:=drop_nil h1
  simp only[rK]at h
  repeat' (first
 |simp only[go_sem,hD,gA,gB,gC]
 |(with_reducible first|refine bg fun hc=>?_|refine bh fun hc=>?_|refine bj (fun hc=>?_) fun hc=>?_)<;>(try simp only[hc,bs,↓reduceIte]at h)<;>try simp only[hc]
 |(with_reducible refine aD hQ ?_;exact fM))
 |cons a rest=>
  obtain⟨gA,g2,hD,g4⟩:=drop_cons h1
  have cH:k<4611686018427387904:=by omega
  simp only[rK]at h
  have hc:=km (l:=l.take k) (by rw[List.length_take];omega) a
  have e1:List.drop 0 (List.take k (l.map encStr))=(l.take k).map encStr:=by simp[List.map_take]
  have c1:((0:Int)≤(k:Int))=True:=by simp
  have c2:((k:Int)≤(l.length:Int))=True:=by simp only[eq_iff_iff,iff_true];omega
  have e2:List.take k (l.map encStr)=(l.take k).map encStr:=by simp[List.map_take]
  repeat' (first
 |simp only[go_sem,hD,gA,gB,gC,e1,e2,c1,c2,or_true,true_and,and_self,ite_self,Int.toNat_natCast,List.drop_zero]
 |(with_reducible refine CU (hc _ _) ?_)
 |(with_reducible first|refine bg fun hc=>?_|refine bh fun hc=>?_|refine bj (fun hc=>?_) fun hc=>?_)<;>(try simp only[hc,bs,↓reduceIte]at h)<;>try simp only[hc]
 |(with_reducible refine aD hQ ?_;(try cases h);simp only[aT,aV,bD,bE,go_sem,hD,gA,gB,gC,e1,e2,c1,c2,or_true,true_and,and_self,ite_self,Int.toNat_natCast,List.drop_zero];try exact bX))
  refine dW 0 0 ?_ ?_ (IH (rest,k+1) ⟨g2,by dsimp only;rw[Wd (by assumption)];exact h⟩ (Nat.lt_succ_self _))
  ·(simp only[go_sem,hD,gA,gB,gC,aH cH];try exact bO)
  ·(simp only[go_sem,hD,gA,gB,gC,aH cH];try exact bO)
set_option maxRecDepth 8000
open Go.Proofs
def yJ (vars globals:List aF) (name:aF):List Pm→Int
 | []=>if fv vars name then 4 else if fv globals name then 1 else 0
 |a::l=>if a.name==name then(if a.ref then 3 else 2)else yJ vars globals name l
def Pc.jQ (p:Pg) (f:Pc) (name:aF):Int:=yJ f.vars p.globals name f.params
theorem Nh {p:Pg} {f:Pc} (hp:f.params.length<1000000000) (hv:f.vars.length<1000000000) (hg:p.globals.length<1000000000) (name:aF) (s:St):aE Tryz.prog xy [.agg (bJ p), .agg (bG f), .str name] s (.int .i64 (f.jQ p name)) s:=by
 refine aE.pure ?_ (by simp[D.bK,D.ok,jh,zl]) rfl s
 have rC:=km (l:=f.vars) (by omega) name
 have wx:=km (l:=p.globals) (by omega) name
 generalize h:f.jQ p name=q
 simp only[Pc.jQ]at h
 unfold S0
 refine aE.go IJ rfl fun B Q hB hQ=>?_
 have⟨hD,gA,gB,gC⟩:=cd
 repeat' (first
 |simp only[go_sem,hD,gA,gB,gC]
 |(with_reducible refine aD hQ ?_;exact bx))
 refine fj 2 0 (bl.ind (ι:=List Pm×Nat) (fun i=>f.params.drop i.2=i.1∧yJ f.vars p.globals name i.1=q) (fun i=>i.1.length)
  (fun i=> [(2, .str name),(3, .ptr 0 0),(4, .ptr 1 0),(10, .slice .shared 2 (f.params.map gp)),(11, .int .i64 (f.params.length:Int)),(12, .int .i64 (i.2:Int))]) (fun i=>⟨[bJ p,bG f],[]⟩) ?_ (f.params,0) ⟨rfl,h⟩)
 rintro⟨rest,k⟩ ⟨h1,h⟩ IH
 dsimp only at h1 h
 cases rest with
 | nil=>
  have hD:=drop_nil h1
  simp only[yJ]at h
  rcases Bool.eq_false_or_eq_true (fv f.vars name)with b1|b1
  ·simp only [b1,if_true]at h
   subst h
   repeat' (first
 |simp only[go_sem,hD,gA,gB,gC,b1]
 |(with_reducible refine CU (rC _ _) ?_)
 |(with_reducible refine CU (wx _ _) ?_)
 | (with_reducible refine aD hQ ?_;exact bx))
  ·simp only [b1,Bool.false_eq_true,if_false]at h
   rcases Bool.eq_false_or_eq_true (fv p.globals name)with b2|b2
   ·simp only [b2,if_true]at h
    subst h
    repeat' (first
 |simp only[go_sem,hD,gA,gB,gC,b1,b2]
 |(with_reducible refine CU (rC _ _) ?_)
 |(with_reducible refine CU (wx _ _) ?_)
 | (with_reducible refine aD hQ ?_;exact bx))
   ·simp only [b2,Bool.false_eq_true,if_false]at h
    subst h
    repeat' (first
 |simp only[go_sem,hD,gA,gB,gC,b1,b2]
 |(with_reducible refine CU (rC _ _) ?_)
 |(with_reducible refine CU (wx _ _) ?_)
 |(with_reducible refine aD hQ ?_;exact bx))
 | cons a rest=>
  obtain⟨gA,g2,hD,g4⟩:=drop_cons h1
  have cH:k<4611686018427387904:=by omega
  simp only[yJ]at h
  rcases Bool.eq_false_or_eq_true (a.name==name)with b1|b1
  ·simp only [b1,if_true]at h
   rcases Bool.eq_false_or_eq_true a.ref with b2|b2
   ·simp only [b2,if_true]at h
    subst h
    repeat' (first
 |simp only[go_sem,hD,gA,gB,gC,b1,b2]
 | (with_reducible refine aD hQ ?_;exact bx))
   ·simp only [b2,Bool.false_eq_true,if_false]at h
    subst h
    repeat' (first
 |simp only[go_sem,hD,gA,gB,gC,b1,b2]
 | (with_reducible refine aD hQ ?_;exact bx))
  ·simp only [b1,Bool.false_eq_true,if_false]at h
   repeat' (first
 |simp only[go_sem,hD,gA,gB,gC,b1]
 | (with_reducible refine aD hQ ?_;exact bx))
   refine dW 2 0 ?_ ?_ (IH (rest,k+1) ⟨g2,h⟩ (Nat.lt_succ_self _))
   ·(simp only[go_sem,hD,gA,gB,gC,aH cH];try exact bO)
   ·(simp only[go_sem,hD,gA,gB,gC,aH cH];try exact bO)
def gQ (name:aF):List Pc→Option Pc
 | []=>none
 |f::l=>if f.name==name then some f else gQ name l
def Pg.find (p:Pg) (name:aF):Option Pc:=gQ name p.procs
def pc0:Pc:=⟨[],[],[],[],[]⟩
theorem Ht:bG pc0 = [.str [], .slice .shared 2 [], .slice .shared 1 [], .slice .shared 13 [], .slice .shared 1 []]:=nd rfl
def qO (r:Option Pc):D:= .tuple [.agg (bG (r.getD pc0)), .bool r.isSome]
theorem aha (r:Option Pc):D.ok 0 0 (qO r)=true:=by simp[qO,D.ok,D.bK,zl]
theorem Wf (f:Pc):bG f = [.str f.name, .slice .shared 2 (f.params.map gp), .slice .shared 1 (f.vars.map encStr), .slice .shared 13 (f.body.map aS), .slice .shared 1 (f.fin.map encStr)]:=nd rfl
set_option maxRecDepth 8000
open Go.Proofs
def Pc.qz (f:Pc):List aF:=f.params.map (·.name)
def Pc.own (f:Pc):List aF:=f.qz++f.vars
theorem abS {f:Pc} (hp:f.params.length<1000000) (hv:f.vars.length<1000000) (s:St):aE Tryz.prog uZ [.agg (bG f)] s (.slice .shared 1 (f.own.map encStr)) s:=by
 refine aE.pure ?_ (by simp[D.bK,D.ok,zl]) (by simp only[D.ok,Tag.ok,fe];rfl) s
 generalize hR:f.own=R
 simp only[Pc.own]at hR
 unfold S0
 refine aE.go KE rfl fun B Q hB hQ=>?_
 have⟨hD,gA,gB,gC⟩:=cd
 repeat' (first
 |simp only[go_sem,hD,gA,gB,gC]
 |(with_reducible refine aD hQ ?_;exact bx))
 refine bl.s7 3 1 rfl ?_
 simp only[go_sem,hD,gA,gB,gC]
 refine fj 1 1 (bl.ind (ι:=List Pm×Nat×List aF×Nat) (fun i=>f.params.drop i.2.1=i.1∧i.2.2.1++i.1.map (·.name)=f.qz∧i.2.2.2=i.2.2.1.length) (fun i=>i.1.length)
  (fun i=> [(1, .ptr 0 0),(3, .slice (.tok 0) 1 (i.2.2.1.map encStr)),(7, .slice .shared 2 (f.params.map gp)),(8, .int .i64 (f.params.length:Int)),(9, .int .i64 (i.2.1:Int))]) (fun i=>⟨[bG f],[some i.2.2.2]⟩) ?_ (f.params,0,[],0) ⟨rfl,rfl,rfl⟩)
 rintro⟨rest,k,out,n⟩ ⟨h1,h2,h3⟩ IH
 dsimp only at h1 h2 h3
 subst h3
 have hlo:out.length+rest.length<1000000:=by
  have:=congrArg List.length h2
  simp only[List.length_append,List.length_map,Pc.qz]at this
  omega
 cases rest with
 |nil=>
  have hD:=drop_nil h1
  simp only[List.map_nil,List.append_nil]at h2
  subst hR
  rw[← h2]at hQ
  have fi:=lJ (l:=out) (nx:=f.vars) rfl (by omega) (g:= .shared)
  repeat' (first
 |simp only[go_sem,hD,gA,gB,gC,fi]
 |(with_reducible refine aD hQ ?_;exact bx))
 |cons a rest=>
  obtain⟨gA,g2,hD,g4⟩:=drop_cons h1
  have cH:k<4611686018427387904:=by omega
  have gB:(out.length+1)*17≤bp:=by unfold bp;omega
  repeat' (first
 |simp only[go_sem,hD,gA,gB,gC]
 |(with_reducible refine aD hQ ?_;exact bx))
  refine dW 1 1 ?_ ?_ (IH (rest,k+1,out++ [a.name],out.length+1) ⟨g2,by rw[← h2];simp,by simp⟩ (Nat.lt_succ_self _))
  ·(simp only[go_sem,hD,gA,gB,gC,aH cH,List.map_append,List.map_cons,List.map_nil,encStr];try exact bO)
  ·(simp only[go_sem,hD,gA,gB,gC,aH cH,List.map_append,List.map_cons,List.map_nil,encStr];try exact bO)
def gi:aF:= [109,97,105,110]
def Sm.known (p:Pg) (f:Pc) (procs:List aF) (v:Sm):Bool:=
 !(v.said.any fun n=>f.jQ p n==0) && (v.kind != 4 ||(v.proc != gi && fv procs v.proc))
structure Pc.Small (p:Pg) (f:Pc):Prop where
 par:f.params.length<1000000
 vars:f.vars.length<1000000
 rl:p.globals.length<1000000
def El (p:Pg) (f:Pc):List aF→Bool
 | []=>true
 |n::l=>if f.jQ p n==0 then false else El p f l
theorem JN (p:Pg) (f:Pc) : ∀ l,El p f l = !(l.any fun n=>f.jQ p n==0)
 | []=>rfl
 |n::l=>by
  simp only[El,List.any_cons,JN p f l]
  cases (f.jQ p n==0)<;>simp
theorem Ni (v:Sm) (h:v.oy):v.said.length<3000000:=by
 have : ∀ (l:List Ar) (out:List aF),(Ar.said out l).length≤out.length+2*Ar.a7 l:=by
  intro l
  induction l with
  |nil=>intro out;simp[Ar.said]
  |cons a l ih=>
   intro out
   simp only[Ar.said,Ar.a7]
   refine Nat.le_trans (ih _) ?_
   have:=me a.x
   have:1≤a.x.size:=by obtain⟨_,_,_,_⟩:=a.x;simp[Ex.size]
   simp only[List.length_append]
   split<;>simp<;>omega
 have h1:=this v.args (v.u7++v.x.names)
 have h2:=me v.x
 have h3:=h.2.2
 have h4:v.u7.length≤1:=by unfold Sm.u7;split<;>simp
 simp only[List.length_append]at h1
 unfold Sm.said
 omega
theorem adu {p:Pg} {f:Pc} {procs:List aF} {v:Sm} (hs:f.Small p) (sF:procs.length<1000000) (hv:v.oy) (s:St):aE Tryz.prog rT [.agg (bJ p), .agg (bG f), .slice .shared 1 (procs.map encStr), .agg (aS v)] s (.bool (v.known p f procs)) s:=by
 refine aE.pure ?_ (by simp[D.bK,D.ok,jh,zl,pI,Tag.ok,fe]) rfl s
 have hn:=fun s=>Dy hv s
 have hk:=fun n s=>Nh (p:=p) (f:=f) (by have:=hs.par;omega) (by have:=hs.vars;omega) (by have:=hs.rl;omega) n s
 have ahb:=km (l:=procs) (by omega) v.proc
 have hl:=Ni v hv
 generalize h:v.known p f procs=q
 simp only[Sm.known, ← JN]at h
 unfold S0
 refine aE.go Hc rfl fun B Q hB hQ=>?_
 have⟨hD,gA,gB,gC⟩:=cd
 repeat' (first
 |simp only[go_sem,hD,gA,gB,gC]
 |(with_reducible refine CU (hn _) ?_)
 |(with_reducible refine aD hQ ?_;exact bx))
 refine fj 3 0 (bl.ind (ι:=List aF×Nat) (fun i=>v.said.drop i.2=i.1∧(El p f i.1 && (v.kind != 4 ||(v.proc != gi && fv procs v.proc)))=q) (fun i=>i.1.length)
  (fun i=> [(2, .slice .shared 1 (procs.map encStr)),(4, .ptr 0 0),(5, .ptr 1 0),(7, .ptr 2 0),(12, .slice .shared 1 (v.said.map encStr)),(13, .int .i64 (v.said.length:Int)),(14, .int .i64 (i.2:Int))]) (fun i=>⟨[bJ p,bG f,aS v],[]⟩) ?_ (v.said,0) ⟨rfl,h⟩)
 rintro⟨rest,k⟩ ⟨h1,h⟩ IH
 dsimp only at h1 h
 cases rest with
 | nil=>
  have hD:=drop_nil h1
  simp only[El,Bool.true_and]at h
  rcases Bool.eq_false_or_eq_true (v.kind != 4)with b1|b1
  ·simp only [b1,Bool.true_or]at h
   subst h
   repeat' (first
 |simp only[go_sem,hD,gA,gB,gC,b1]
 | (with_reducible refine aD hQ ?_;exact bx))
  ·simp only [b1,Bool.false_or]at h
   rcases Bool.eq_false_or_eq_true (v.proc != gi)with b2|b2
   ·simp only [b2,Bool.true_and]at h
    unfold gi at b2
    have b3:(v.proc == [109,97,105,110]) = !(v.proc != [109,97,105,110]):=by simp only[bne,Bool.not_not]
    rw[b2]at b3
    simp only[Bool.not_true,Bool.not_false]at b3
    subst h
    repeat' (first
 |simp only[go_sem,hD,gA,gB,gC,b1,b2,b3]
 |(with_reducible refine CU (ahb _ _) ?_)
 | (with_reducible refine aD hQ ?_;exact bx))
   ·simp only [b2,Bool.false_and]at h
    unfold gi at b2
    have b3:(v.proc == [109,97,105,110]) = !(v.proc != [109,97,105,110]):=by simp only[bne,Bool.not_not]
    rw[b2]at b3
    simp only[Bool.not_true,Bool.not_false]at b3
    subst h
    repeat' (first
 |simp only[go_sem,hD,gA,gB,gC,b1,b2,b3]
 |(with_reducible refine CU (ahb _ _) ?_)
 |(with_reducible refine aD hQ ?_;exact bx))
 | cons a rest=>
  obtain⟨gA,g2,hD,g4⟩:=drop_cons h1
  have cH:k<4611686018427387904:=by omega
  simp only[El]at h
  rcases Bool.eq_false_or_eq_true (f.jQ p a==0)with b1|b1
  ·simp only [b1,if_true,Bool.false_and]at h
   subst h
   repeat' (first
 |simp only[go_sem,hD,gA,gB,gC,b1]
 |(with_reducible refine CU (hk _ _) ?_)
 | (with_reducible refine aD hQ ?_;exact bx))
  ·simp only [b1,Bool.false_eq_true,if_false]at h
   repeat' (first
 |simp only[go_sem,hD,gA,gB,gC,b1]
 |(with_reducible refine CU (hk _ _) ?_)
 | (with_reducible refine aD hQ ?_;exact bx))
   refine dW 3 0 ?_ ?_ (IH (rest,k+1) ⟨g2,h⟩ (Nat.lt_succ_self _))
   ·(simp only[go_sem,hD,gA,gB,gC,aH cH];try exact bO)
   ·(simp only[go_sem,hD,gA,gB,gC,aH cH];try exact bO)
theorem P2 : ∀ (l pre:List aF),rK pre l=true↔(∃ x∈l,x∈pre)∨¬ l.Nodup
 | [],pre=>by simp[rK]
 | s::l,pre=>by
  simp only[rK]
  by_cases h:fv pre s=true
  ·simp only [h,if_true,true_iff]
   exact .inl ⟨s,List.mem_cons_self,(gJ _ _).1 h⟩
  ·have h':s∉pre:=fun m=>h ((gJ _ _).2 m)
   simp only[h,if_false,Bool.false_eq_true]
   rw[P2 l (pre++ [s])]
   simp only[List.mem_append,List.mem_singleton,List.mem_cons,List.nodup_cons,exists_eq_or_imp]
   constructor
   ·rintro(⟨x,m,h1 | h1⟩ | h1)
    ·exact .inl (.inr ⟨x,m,h1⟩)
    ·have h1:x=s:=by simpa using h1
     subst h1;exact .inr fun h=>h.1 m
    ·exact .inr fun h=>h1 h.2
   ·rintro((h1 | ⟨x,m,h1⟩) | h1)
    ·exact absurd h1 h'
    ·exact .inl ⟨x,m, .inl h1⟩
    ·by_cases m:s∈l
     ·exact .inl ⟨s,m, .inr (.inl rfl)⟩
     ·exact .inr fun h=>h1 ⟨m,h⟩
theorem vE (l:List aF):eZ l=true↔¬ l.Nodup:=by
 unfold eZ;rw[P2];simp
theorem Wg (a b:List aF):eZ (a++b)=(eZ a ||(eZ b ||b.any (fv a))):=by
 have h:eZ (a++b)=true↔(eZ a ||(eZ b ||b.any (fv a)))=true:=by
  rw[vE,List.nodup_append]
  simp only[Bool.or_eq_true,vE,List.any_eq_true,gJ]
  constructor
  ·intro h
   by_cases ha:a.Nodup
   ·by_cases hb:b.Nodup
    ·refine .inr (.inr (Classical.byContradiction fun hn=>h ⟨ha,hb,fun x hx y hy e=>hn ⟨y,hy,e ▸ hx⟩⟩))
    ·exact .inr (.inl hb)
   ·exact .inl ha
  ·rintro(h | h | ⟨x,h1,h2⟩) ⟨h3,h4,h5⟩
   ·exact h h3
   ·exact h h4
   ·exact h5 x h2 x h1 rfl
 cases h1:eZ (a++b)<;>cases h2:(eZ a ||(eZ b ||b.any (fv a)))<;>simp_all
theorem Nj (name:aF) : ∀ (l:List Pc) (k:Nat),(gQ name l=none∧ja name (k:Int) (l.map (·.name)) = -1)∨∃ f j,gQ name l=some f∧l[j]? = some f∧ja name (k:Int) (l.map (·.name))=((k+j:Nat):Int)
 | [],k=> .inl ⟨rfl,rfl⟩
 | f::l,k=>by
  by_cases h:f.name=name
  ·subst h
   refine .inr ⟨f,0,by simp[gQ],rfl,by simp[ja]⟩
  ·have h1:(f.name==name)=false:=by simp [h]
   have h2:(name==f.name)=false:=by simp[Ne.symm h]
   simp only[gQ,h1,Bool.false_eq_true,if_false,List.map_cons,ja,h2]
   rcases Nj name l (k+1)with ⟨g1,g2⟩|⟨g,j,g1,g2,g3⟩
   ·exact .inl ⟨g1,by rw[← g2];rfl⟩
   ·refine .inr ⟨g,j+1,g1,by simpa using g2, ?_⟩
    rw[show((k:Int)+1)=((k+1:Nat):Int)from rfl,g3]
    congr 1;omega
theorem sj {name:aF} {f:Pc} : ∀ {l:List Pc},gQ name l=some f→f∈l∧f.name=name
 |g::l,h=>by
  simp only[gQ]at h
  split at h
  ·rename_i e;cases h;exact⟨List.mem_cons_self,by simpa using e⟩
  ·have:=sj h;exact⟨List.mem_cons_of_mem _ this.1,this.2⟩
mutual
theorem Wh (deep cG:Int) (aL:Bool) (out:List It) : ∀ s:Sm,∃ e,iF deep cG aL out s=out++e
 | ⟨id,kind,labels,name,proc,x,has,args,aM,e⟩=>by
  simp only[iF]
  split
  ·obtain⟨e1,h1⟩:=qA (deep+1) id false (out++ [⟨⟨id,kind,labels,name,proc,x,has,args,aM,e⟩,deep,cG,aL⟩]) aM
   obtain⟨e2,h2⟩:=qA (deep+1) id true (fw (deep+1) id false (out++ [⟨⟨id,kind,labels,name,proc,x,has,args,aM,e⟩,deep,cG,aL⟩]) aM) e
   rw[h2,h1]
   exact⟨_,by rw[List.append_assoc,List.append_assoc]⟩
  ·exact⟨_,rfl⟩
theorem qA (deep cG:Int) (aL:Bool) (out:List It) : ∀ l:List Sm,∃ e,fw deep cG aL out l=out++e
 | []=>⟨[],by simp[fw]⟩
 | s::l=>by
  simp only[fw]
  split
  ·obtain⟨e1,h1⟩:=Wh deep cG aL out s
   obtain⟨e2,h2⟩:=qA deep cG aL (iF deep cG aL out s) l
   rw[h2,h1]
   exact⟨_,by rw[List.append_assoc]⟩
  ·exact⟨[],by simp⟩
end
mutual
theorem Wi (deep cG:Int) (aL:Bool) (out:List It) : ∀ s:Sm,(iF deep cG aL out s).length≤200→(∀ i∈iF deep cG aL out s,i.deep≤12)→(iF deep cG aL out s).map It.s=out.map It.s++s.pre
 | ⟨id,kind,labels,name,proc,x,has,args,aM,e⟩,h1,h2=>by
  simp only[iF,Sm.pre]at h1 h2 ⊢
  by_cases hd:deep≤12
  ·simp only [hd,decide_true,if_true]at h1 h2 ⊢
   obtain⟨e2,g2⟩:=qA (deep+1) id true (fw (deep+1) id false (out++ [⟨⟨id,kind,labels,name,proc,x,has,args,aM,e⟩,deep,cG,aL⟩]) aM) e
   have k1:(fw (deep+1) id false (out++ [⟨⟨id,kind,labels,name,proc,x,has,args,aM,e⟩,deep,cG,aL⟩]) aM).length≤200:=by
    rw[g2,List.length_append]at h1;omega
   have k2 : ∀ i∈fw (deep+1) id false (out++ [⟨⟨id,kind,labels,name,proc,x,has,args,aM,e⟩,deep,cG,aL⟩]) aM,i.deep≤12:=fun i m=>h2 i (by rw[g2];exact List.mem_append_left _ m)
   rw[yK (deep+1) id true _ e h1 h2,yK (deep+1) id false _ aM k1 k2]
   simp
  ·simp only [hd,decide_false,Bool.false_eq_true,if_false]at h1 h2
   exact absurd (h2 _ (List.mem_append_right _ (List.mem_singleton.2 rfl))) (by simpa using hd)
theorem yK (deep cG:Int) (aL:Bool) (out:List It) : ∀ l:List Sm,(fw deep cG aL out l).length≤200→(∀ i∈fw deep cG aL out l,i.deep≤12)→(fw deep cG aL out l).map It.s=out.map It.s++Sm.bZ l
 | [],h1,h2=>by simp[fw,Sm.bZ]
 | s::l,h1,h2=>by
  simp only[fw,Sm.bZ]at h1 h2 ⊢
  by_cases hc:(out.length:Int)≤200
  ·simp only [hc,decide_true,if_true]at h1 h2 ⊢
   obtain⟨e2,g2⟩:=qA deep cG aL (iF deep cG aL out s) l
   have k1:(iF deep cG aL out s).length≤200:=by rw[g2,List.length_append]at h1;omega
   have k2 : ∀ i∈iF deep cG aL out s,i.deep≤12:=fun i m=>h2 i (by rw[g2];exact List.mem_append_left _ m)
   rw[yK deep cG aL _ l h1 h2,Wi deep cG aL out s k1 k2]
   simp
  ·simp only [hc,decide_false,Bool.false_eq_true,if_false]at h1
   omega
end
theorem Nk : ∀ (l:List Pc) (out:List It),(allM out l).length≤200→(∀ i∈allM out l,i.deep≤12)→(∀ f∈l,f.flat.map It.s=Sm.bZ f.body)∧(allM out l).map It.s=out.map It.s++(l.map fun f=>Sm.bZ f.body).flatten
 | [],out,h1,h2=>⟨fun f m=>(by cases m),by simp[allM]⟩
 | f::l,out,h1,h2=>by
  simp only[allM]at h1 h2 ⊢
  by_cases hc:(((out++f.flat).length:Nat):Int) > 200
  ·simp only[hc,decide_true,if_true]at h1;omega
  ·simp only [hc,decide_false,Bool.false_eq_true,if_false]at h1 h2 ⊢
   obtain⟨k1,k2⟩:=Nk l (out++f.flat) h1 h2
   have rp : ∀ (l:List Pc) (out:List It),∃ e,allM out l=out++e:=by
    intro l
    induction l with
    |nil=>intro out;exact⟨[],by simp[allM]⟩
    |cons g l ih=>
     intro out
     simp only[allM]
     split
     ·exact⟨_,rfl⟩
     ·obtain⟨e,h⟩:=ih (out++g.flat);exact⟨g.flat++e,by rw[h];simp⟩
   obtain⟨e,he⟩:=rp l (out++f.flat)
   have k3:f.flat.map It.s=Sm.bZ f.body:=by
    have:=yK 1 0 false [] f.body (by
     have:f.flat.length≤200:=by simp only[List.length_append]at hc;omega
     exact this) (fun i m=>h2 i (by rw[he];exact List.mem_append_left _ (List.mem_append_right _ m)))
    simpa[Pc.flat]using this
   refine⟨fun g m=>?_, ?_⟩
   ·rcases List.mem_cons.1 m with rfl | m
    ·exact k3
    ·exact k1 g m
   ·rw[k2];simp[k3]
theorem yL : ∀ (l:List It) (n:Nat),It.fD n l=true→(∀ i∈l,i.deep≤12)∧∀ (j:Nat) (i:It),l[j]? = some i→i.s.id=((n+j+1:Nat):Int)
 | [],n,h=>⟨fun i m=>(by cases m),fun j i h=>by simp at h⟩
 | a::l,n,h=>by
  simp only[It.fD]at h
  split at h
  ·cases h
  ·rename_i c
   simp only[Bool.or_eq_true,not_or,bne_iff_ne,ne_eq,Decidable.not_not,decide_eq_true_eq,Int.not_lt,gt_iff_lt]at c
   obtain⟨k1,k2⟩:=yL l (n+1) h
   refine⟨fun i m=>?_,fun j i hj=>?_⟩
   ·rcases List.mem_cons.1 m with rfl | m
    ·exact c.1.2
    ·exact k1 i m
   ·cases j with
    |zero=>simp at hj;subst hj;rw[c.1.1]
    |succ j=>simp at hj;rw[k2 j i hj];congr 1;omega
theorem w5 {p:Pg} (h:p.may=true):p.all.length≤200∧It.fD 0 p.all=true:=by
 unfold Pg.may at h
 split at h
 ·cases h
 ·split at h
  ·cases h
  ·split at h
   ·cases h
   ·rename_i c
    exact⟨by simp only[decide_eq_true_eq,Int.not_lt,gt_iff_lt]at c;omega,h⟩
theorem F1 {p:Pg} (h:p.may=true):(∀ f∈p.procs,f.flat.map It.s=Sm.bZ f.body)∧p.all.map It.s=p.pre:=by
 obtain⟨h1,h2⟩:=w5 h
 have:=Nk p.procs [] h1 (yL _ 0 h2).1
 simpa[Pg.pre,Pg.all]using this
theorem AR {p:Pg} (h:p.may=true) {i:Nat} {v:Sm} (hv:p.pre[i]? = some v):v.id=((i+1:Nat):Int):=by
 rw[← (F1 h).2,List.getElem?_map,Option.map_eq_some_iff]at hv
 obtain⟨it,h1,rfl⟩:=hv
 have:=(yL _ 0 (w5 h).2).2 i it h1
 rw[this];congr 1;omega
set_option maxRecDepth 8000
open Go.Proofs
structure Pg.jv (p:Pg):Prop where
 Nl:p.LF
 sz:p.size≤900000
mutual
theorem ahc : ∀ s:Sm,s.yD→s.size<1000000→∀ v∈s.pre,v.oy∧v.wb
 |⟨id,kind,labels,name,proc,x,has,args,aM,aL⟩,h,hs,v,m=>by
  simp only[Sm.yD]at h
  simp only[Sm.size]at hs
  simp only[Sm.pre,List.mem_cons,List.mem_append]at m
  rcases m with rfl|m|m
  ·exact⟨⟨h.1.xt,fun a ha=>(h.1.arg a ha).2.1,by dsimp only;omega⟩,h.1⟩
  ·exact Em aM h.2.1 (by omega) v m
  ·exact Em aL h.2.2 (by omega) v m
theorem Em : ∀ l:List Sm,Sm.ly l→Sm.a7 l<1000000→∀ v∈Sm.bZ l,v.oy∧v.wb
 | [],h,hs,v,m=>by simp[Sm.bZ]at m
 |s::l,h,hs,v,m=>by
  simp only[Sm.ly]at h
  simp only[Sm.a7]at hs
  simp only[Sm.bZ,List.mem_append]at m
  rcases m with m|m
  ·exact ahc s h.1 (by omega) v m
  ·exact Em l h.2 (by omega) v m
end
theorem Pg.jv.said {p:Pg} (h:p.jv) {f:Pc} (hf:f∈p.procs) : ∀ v∈Sm.bZ f.body,v.oy:=fun v m=>by
 have h1:=Pc.da hf
 have h2:=h.sz
 simp only[Pg.size]at h2
 simp only[Pc.size]at h1
 exact(Em f.body (h.Nl.body f hf) (by omega) v m).1
theorem Pg.jv.small {p:Pg} (h:p.jv) {f:Pc} (hf:f∈p.procs):f.Small p:=by
 have h1:=Pc.da hf
 have h2:=h.sz
 simp only[Pg.size]at h2
 simp only[Pc.size]at h1
 exact⟨by omega,by omega,by omega⟩
theorem Pg.jv.procs {p:Pg} (h:p.jv):p.procs.length≤900000∧Pc.a7 p.procs≤900000∧p.globals.length≤900000:=by
 have h2:=h.sz
 have h3:=Pc.dJ p.procs
 simp only[Pg.size]at h2
 omega
def Pg.pn (p:Pg):List aF:=p.procs.map (·.name)
def zI (p:Pg) (f:Pc) (procs:List aF):List Sm→Option Sm
 | []=>none
 |v::l=>if v.known p f procs then zI p f procs l else some v
def tC (p:Pg) (procs:List aF):List Pc→Int×Int
 | []=>(0,0)
 |f::l=>if eZ (p.globals++f.own)then(5,0)else match zI p f procs (Sm.bZ f.body)with|some v=>(5,v.id)|none=>tC p procs l
def Pg.nB (p:Pg):Bool:=match p.find gi with|none=>true|some m=>decide ((m.params.length:Int) > 0)
def Pg.scope (p:Pg):Int×Int:=
 if p.may then if eZ p.globals ||(eZ p.pn ||p.nB)then(5,0)else tC p p.pn p.procs else(1,0)
theorem Zr (p:Pg) (hl:p.globals.length<1000000) (n:aF):aE Tryz.prog pX ([.str n]++ [.ptr 0 0]) ⟨[bJ p],[]⟩ (.bool (fv p.globals n)) ⟨[bJ p],[]⟩:=by
 show aE Tryz.prog pX [.str n, .ptr 0 0] _ _ _
 have qV:=km (l:=p.globals) (by omega) n
 refine aE.go ES rfl fun B Q hB hQ=>?_
 have⟨hD,gA,gB,gC⟩:=cd
 repeat' (first
 |simp only[go_sem,hD,gA,gB,gC]
 |(with_reducible refine CU (qV _ _) ?_)
 |(with_reducible refine aD hQ ?_;exact bx))
theorem abT (n m:Nat) (p:Pg):D.gT n m (ga p)=ga p:=iX n m _ (we p)
attribute [go_sem] abT
theorem adv {p:Pg} {f:Pc} {procs:List aF} {v:Sm} (hs:f.Small p) (sF:procs.length<1000000) (hv:v.oy) (g:Tag) (s:St):aE Tryz.prog rT [.agg (bJ p), .agg (bG f), .slice g 1 (procs.map encStr), .agg (aS v)] s (.bool (v.known p f procs)) s:=
 bW.o5 (.cons (Wk.refl _) (.cons (Wk.refl _) (.cons (Wk.shared g 1 _) (j9.refl _)))) (adu hs sF hv s)
theorem xK {p:Pg} (h:p.jv) (s:St):aE Tryz.prog na [.agg (bJ p)] s (.agg [.int .i64 p.scope.1, .int .i64 p.scope.2]) s:=by
 refine aE.pure ?_ (by simp[D.bK,D.ok,jh]) rfl s
 have hm:=fun s=>Hg h.Nl s
 simp only[AN]at hm
 obtain⟨sT,sC,sB⟩:=h.procs
 have dC:=fun s=>Ej (p:=p) (by omega) s
 have qW:=fun s=>F0 (l:=p.globals) (by omega) .shared s
 have hpn:p.pn.length=p.procs.length:=by simp[Pg.pn]
 have GG:=fun g s=>F0 (l:=p.pn) (by omega) g s
 have Nn:=fun g s=>(Ek (l:=p.pn) (by omega) gi s).wk1 (Wk.shared g 1 (p.pn.map encStr))
 have F2:=fun g s=>(show aE Tryz.prog gU [.slice g 1 (p.pn.map encStr), .str [109,97,105,110]] s (.int .i64 (ja gi 0 p.pn)) s from Nn g s)
 generalize hR:p.scope=R
 simp only[Pg.scope]at hR
 unfold S0
 rcases Bool.eq_false_or_eq_true p.may with hb|hb
 case inr=>
  simp only[hb]at hm
  simp only[hb,Bool.false_eq_true,if_false]at hR
  subst hR
  refine aE.go yy rfl fun B Q hB hQ=>?_
  have⟨hD,gA,gB,gC⟩:=cd
  repeat' (first
 |simp only[go_sem,hD,gA,gB,gC]
 |(with_reducible refine CU (hm _) ?_)
 |(with_reducible refine aD hQ ?_;exact bx))
 simp only[hb]at hm
 simp only[hb,if_true]at hR
 refine aE.go yy rfl fun B Q hB hQ=>?_
 have⟨hD,gA,gB,gC⟩:=cd
 repeat' (first
 |simp only[go_sem,hD,gA,gB,gC]
 |(with_reducible refine CU (hm _) ?_)
 |(with_reducible refine aD hQ ?_;exact bx))
 refine bl.s7 3 1 rfl ?_
 simp only[go_sem,hD,gA,gB,gC]
 refine fj 2 1 (bl.ind (ι:=List Pc×Nat×List aF×Nat) (fun i=>p.procs.drop i.2.1=i.1∧i.2.2.1++i.1.map (·.name)=p.pn∧i.2.2.2=i.2.2.1.length) (fun i=>i.1.length)
  (fun i=> [(1, .ptr 0 0),(2, .ptr 1 0),(3, .slice (.tok 0) 1 (i.2.2.1.map encStr)),(18, .slice .shared 5 (p.procs.map bG)),(19, .int .i64 (p.procs.length:Int)),(20, .int .i64 (i.2.1:Int))]) (fun i=>⟨[bJ p,[.int .i64 0, .int .i64 0]],[some i.2.2.2]⟩) ?_ (p.procs,0,[],0) ⟨rfl,rfl,rfl⟩)
 rintro⟨rest,k,out,n⟩ ⟨h1,h2,h3⟩ IH
 dsimp only at h1 h2 h3
 subst h3
 have hlo:out.length+rest.length≤900000:=by
  have:=congrArg List.length h2
  simp only[List.length_append,List.length_map]at this
  omega
 cases rest with
 |cons a rest=>
  obtain⟨gA,g2,hD,g4⟩:=drop_cons h1
  have cH:k<4611686018427387904:=by omega
  have gB:(out.length+1)*17≤bp:=by unfold bp;omega
  repeat' (first
 |simp only[go_sem,hD,gA,gB,gC]
 |(with_reducible refine aD hQ ?_;exact bx))
  refine dW 2 1 ?_ ?_ (IH (rest,k+1,out++ [a.name],out.length+1) ⟨g2,by rw[← h2];simp,by simp⟩ (Nat.lt_succ_self _))
  ·(simp only[go_sem,hD,gA,gB,gC,aH cH,List.map_append,List.map_cons,List.map_nil,encStr];try exact bO)
  ·(simp only[go_sem,hD,gA,gB,gC,aH cH,List.map_append,List.map_cons,List.map_nil,encStr];try exact bO)
 | nil=>
  have hD:=drop_nil h1
  simp only[List.map_nil,List.append_nil]at h2
  subst h2
  rcases Bool.eq_false_or_eq_true (eZ p.globals)with b1|b1
  ·simp only [b1,Bool.true_or,if_true]at hR
   subst hR
   repeat' (first
 |simp only[go_sem,hD,gA,gB,gC,b1]
 |(with_reducible refine CU (F2 _ _) ?_)
 |(with_reducible refine CU (qW _) ?_)
 |(with_reducible refine CU (GG _ _) ?_)
 | (with_reducible refine aD hQ ?_;exact bx))
  rcases Bool.eq_false_or_eq_true (eZ p.pn)with b2|b2
  ·simp only [b1,b2,Bool.true_or,Bool.or_true,if_true]at hR
   subst hR
   repeat' (first
 |simp only[go_sem,hD,gA,gB,gC,b1,b2]
 |(with_reducible refine CU (F2 _ _) ?_)
 |(with_reducible refine CU (qW _) ?_)
 |(with_reducible refine CU (GG _ _) ?_)
 | (with_reducible refine aD hQ ?_;exact bx))
  rcases Nj gi p.procs 0 with ⟨e1,e2⟩|⟨m,j,e1,e2,e3⟩
  ·have b3:p.nB=true:=by unfold Pg.nB Pg.find;rw [e1]
   have hi:ja gi 0 p.pn = -1:=e2
   simp only[b1,b2,b3,Bool.or_true,if_true]at hR
   subst hR
   simp only[hi]at F2
   have d1:decide ((-1:Int)<0)=true:=by decide
   repeat' (first
 |simp only[go_sem,hD,gA,gB,gC,b1,b2,d1]
 |(with_reducible refine CU (F2 _ _) ?_)
 |(with_reducible refine CU (qW _) ?_)
 |(with_reducible refine CU (GG _ _) ?_)
 | (with_reducible refine aD hQ ?_;exact bx))
  have hi:ja gi 0 p.pn=((j:Nat):Int):=by rw[show p.pn=p.procs.map (·.name)from rfl];simpa using e3
  simp only[hi]at F2
  have d1:decide (((j:Nat):Int)<0)=false:=by simp
  have hj:j<p.procs.length:=(List.getElem?_eq_some_iff.1 e2).1
  have b3:p.nB=decide ((m.params.length:Int) > 0):=by unfold Pg.nB Pg.find;rw[e1]
  rw[b3]at hR
  rcases Bool.eq_false_or_eq_true (decide ((m.params.length:Int) > 0))with b4|b4
  ·simp only [b1,b2,b4,Bool.or_true,if_true]at hR
   subst hR
   repeat' (first
 |simp only[go_sem,hD,gA,gB,gC,b1,b2,d1,e2,b4]
 |(with_reducible refine CU (F2 _ _) ?_)
 |(with_reducible refine CU (qW _) ?_)
 |(with_reducible refine CU (GG _ _) ?_)
 |(with_reducible refine aD hQ ?_;exact bx))
  simp only[b1,b2,b4,Bool.or_false,Bool.false_eq_true,if_false]at hR
  repeat' (first
 |simp only[go_sem,hD,gA,gB,gC,b1,b2,d1,e2,b4]
 |(with_reducible refine CU (F2 _ _) ?_)
 |(with_reducible refine CU (qW _) ?_)
 |(with_reducible refine CU (GG _ _) ?_)
 |(with_reducible refine CU (dC _) ?_)
 | (with_reducible refine aD hQ ?_;exact bx))
  refine fj 2 1 (bl.ind (ι:=List Pc×Nat) (fun i=>p.procs.drop i.2=i.1∧tC p p.pn i.1=R) (fun i=>i.1.length)
   (fun i=> [(1, .ptr 0 0),(2, .ptr 1 0),(3, .slice (.tok 0) 1 (p.pn.map encStr)),(7, .dN (ga p) 0),(57, .slice .shared 5 (p.procs.map bG)),(58, .int .i64 (p.procs.length:Int)),(59, .int .i64 (i.2:Int))]) (fun i=>⟨[bJ p,[.int .i64 0, .int .i64 0]],[some p.pn.length]⟩) ?_ (p.procs,0) ⟨rfl,hR⟩)
  clear IH h1 hD hR
  rintro⟨rest,k⟩ ⟨h1,hR⟩ IH
  dsimp only at h1 hR
  cases rest with
  |nil=>
   have hD:=drop_nil h1
   simp only[tC]at hR
   subst hR
   repeat' (first
 |simp only[go_sem,hD,gA,gB,gC]
 | (with_reducible refine aD hQ ?_;exact bx))
  | cons f rest=>
   obtain⟨gA,g2,hD,g4⟩:=drop_cons h1
   have cH:k<4611686018427387904:=by omega
   have Cg:=List.mem_of_getElem? gA
   have ub:=h.small Cg
   have Wj:=fun s=>abS (f:=f) ub.par ub.vars s
   have jS:f.own.length<4611686018427387904:=by have h1:=ub.par;have h2:=ub.vars;unfold Pc.own Pc.qz;simp;omega
   have P3:=fun s=>F0 (l:=f.own) jS .shared s
   have Fh:=fun {s:St} {o:Nat} (ho:s.ah[o]? = some (bJ p))=>AQ (l:=f.own) jS (f:=pX) (row:=bJ p) (b:=fv p.globals) (jh p) (by with_unfolding_all rfl) (fun x _=>Zr p ub.rl x) ho
   have Zs:=fun {s:St} {o:Nat} (ho:s.ah[o]? = some (bJ p))=>(show aE Tryz.prog gV [.slice .shared 1 (f.own.map encStr), .ie 118 [.ptr o 0]] s (.bool (f.own.any (fv p.globals))) s from Fh ho)
   simp only[tC,Wg,b1,Bool.false_or]at hR
   rcases Bool.eq_false_or_eq_true (eZ f.own)with c1|c1
   ·simp only [c1,Bool.true_or,if_true]at hR
    subst hR
    repeat' (first
 |simp only[go_sem,hD,gA,gB,gC,c1]
 |(with_reducible refine CU (Wj _) ?_)
 |(with_reducible refine CU (P3 _) ?_)
 |(with_reducible refine CU (Zs (by with_unfolding_all rfl)) ?_)
 | (with_reducible refine aD hQ ?_;exact bx))
   rcases Bool.eq_false_or_eq_true (f.own.any (fv p.globals))with c2|c2
   ·simp only [c1,c2,Bool.false_or,if_true]at hR
    subst hR
    repeat' (first
 |simp only[go_sem,hD,gA,gB,gC,c1,c2]
 |(with_reducible refine CU (Wj _) ?_)
 |(with_reducible refine CU (P3 _) ?_)
 |(with_reducible refine CU (Zs (by with_unfolding_all rfl)) ?_)
 | (with_reducible refine aD hQ ?_;exact bx))
   simp only[c1,c2,Bool.or_self,Bool.false_eq_true,if_false]at hR
   obtain⟨it,pZ,DA⟩:=Zj gA (by omega)
   rw[← pZ]at hR
   have ahe:it.length≤900000:=by
    have e:=congrArg List.length pZ
    have e2:=(oT p).2 k f gA
    obtain⟨a,b,e',_,_,e3,e4⟩:=e2
    have e5:=qy p
    have e6:=congrArg List.length e3
    rw[e4]at e5
    simp only[List.length_map,List.length_append]at e e5 e6
    omega
   repeat' (first
 |simp only[go_sem,hD,gA,gB,gC,c1,c2]
 |(with_reducible refine CU (Wj _) ?_)
 |(with_reducible refine CU (P3 _) ?_)
 |(with_reducible refine CU (Zs (by with_unfolding_all rfl)) ?_)
 |(with_reducible refine CU (DA _) ?_)
 | (with_reducible refine aD hQ ?_;exact bx))
   obtain⟨q,hq⟩ : ∃ q,zI p f p.pn (it.map Im.s)=q:=⟨_,rfl⟩
   rw[hq]at hR
   refine fj 3 1 (bl.ind (ι:=List Im×Nat) (fun i=>it.drop i.2=i.1∧zI p f p.pn (i.1.map Im.s)=q) (fun i=>i.1.length)
    (fun i=> [(1, .ptr 0 0),(2, .ptr 1 0),(3, .slice (.tok 0) 1 (p.pn.map encStr)),(7, .dN (ga p) 0),(9, .ptr 2 0),(57, .slice .shared 5 (p.procs.map bG)),(58, .int .i64 (p.procs.length:Int)),(59, .int .i64 (k:Int)),(76, .slice .shared 17 (it.map dM)),(77, .int .i64 (it.length:Int)),(78, .int .i64 (i.2:Int))]) (fun i=>⟨[bJ p,[.int .i64 0, .int .i64 0],bG f],[some p.pn.length]⟩) ?_ (it,0) ⟨rfl,hq⟩)
   rintro⟨Ea,n⟩ ⟨j1,j2⟩ IH'
   dsimp only at j1 j2
   have B6:=hD
   cases Ea with
   |nil=>
    have atO:=drop_nil j1
    simp only[List.map_nil,zI]at j2
    subst j2
    simp only at hR
    repeat' (first
 |simp only[go_sem,hD,gA,gB,gC,atO]
 | (with_reducible refine aD hQ ?_;exact bx))
    refine dW 2 1 ?_ ?_ (IH (rest,k+1) ⟨g2,hR⟩ (Nat.lt_succ_self _))
    ·(simp only[go_sem,hD,gA,gB,gC,aH cH];try exact bO)
    ·(simp only[go_sem,hD,gA,gB,gC,aH cH];try exact bO)
   | cons i Ea=>
    obtain⟨qB,P4,AS,jg4⟩:=drop_cons j1
    have oU:n<4611686018427387904:=by omega
    have DB:i.s∈Sm.bZ f.body:=by rw[← pZ];exact List.mem_map_of_mem (List.mem_of_getElem? qB)
    have hkn:=adv (v:=i.s) ub (procs:=p.pn) (by omega) (h.said Cg _ DB)
    simp only[List.map_cons,zI]at j2
    rcases Bool.eq_false_or_eq_true (i.s.known p f p.pn)with c3|c3
    ·simp only [c3,if_true]at j2
     repeat' (first
 |simp only[go_sem,hD,gA,gB,gC,AS,qB,c3]
 |(with_reducible refine CU (hkn _ _) ?_)
 | (with_reducible refine aD hQ ?_;exact bx))
     refine dW 3 1 ?_ ?_ (IH' (Ea,n+1) ⟨P4,j2⟩ (Nat.lt_succ_self _))
     ·(simp only[go_sem,hD,gA,gB,gC,aH oU];try exact bO)
     ·(simp only[go_sem,hD,gA,gB,gC,aH oU];try exact bO)
    ·simp only [c3,Bool.false_eq_true,if_false]at j2
     subst j2
     simp only at hR
     subst hR
     repeat' (first
 |simp only[go_sem,hD,gA,gB,gC,AS,qB,c3]
 |(with_reducible refine CU (hkn _ _) ?_)
 |(with_reducible refine aD hQ ?_;exact bx))
end Go.Abs
namespace Go.Abs
set_option maxRecDepth 8000
open Go.Proofs
theorem Zt (x:It):(kF x)[1]? = some (.int .i64 x.s.kind):=nd rfl
theorem Zu (x:It):(kF x)[3]? = some (.str x.s.name):=nd rfl
theorem Zv (x:It):(kF x)[4]? = some (.str x.s.proc):=nd rfl
theorem adw (x:It):List.take 16 (kF x)=kF x:=nd rfl
attribute [go_sem] Zt Zu Zv adw
end Go.Abs
namespace Go.Abs
set_option maxRecDepth 8000
open Go.Proofs
def Hu:List Pm→List Ar→Bool
 | [],_=>true
 |_,[]=>true
 |a::l,b::m=>if a.ref==b.ref then Hu l m else false
def En (l:List Pm) (m:List Ar):Bool:=if(l.length:Int)==(m.length:Int)then Hu l m else false
def Sm.pb (p:Pg) (v:Sm):Bool:=v.kind==4 && match p.find v.proc with|none=>false|some q=>En q.params v.args
theorem ahf {l:List Pm} {m:List Ar} (hl:l.length<1000000000) (hm:m.length<1000000000) (s:St):aE Tryz.prog xA [.slice .shared 2 (l.map gp), .slice .shared 6 (m.map eR)] s (.bool (En l m)) s:=by
 refine aE.pure ?_ (by simp[D.bK,D.ok,Tag.ok,SS,K6]) rfl s
 generalize h:En l m=q
 simp only[En]at h
 unfold S0
 have b0:((l.length:Int) != (m.length:Int)) = !((l.length:Int)==(m.length:Int)):=rfl
 rcases Bool.eq_false_or_eq_true ((l.length:Int)==(m.length:Int))with b1|b1
 case inr=>
  rw[b1]at b0
  simp only[b1,Bool.false_eq_true,if_false]at h
  subst h
  refine aE.go Az rfl fun B Q hB hQ=>?_
  have⟨hD,gA,gB,gC⟩:=cd
  repeat' (first
 |simp only[go_sem,hD,gA,gB,gC,b0,Bool.not_false]
 |(with_reducible refine aD hQ ?_;exact bx))
 rw[b1]at b0
 simp only[b1,if_true]at h
 have hlm:l.length=m.length:=by have:=eq_of_beq b1;omega
 refine aE.go Az rfl fun B Q hB hQ=>?_
 have⟨hD,gA,gB,gC⟩:=cd
 repeat' (first
 |simp only[go_sem,hD,gA,gB,gC,b0,Bool.not_true]
 |(with_reducible refine aD hQ ?_;exact bx))
 refine fj 0 0 (bl.ind (ι:=List Pm×List Ar×Nat) (fun i=>l.drop i.2.2=i.1∧m.drop i.2.2=i.2.1∧Hu i.1 i.2.1=q) (fun i=>i.1.length)
  (fun i=> [(1, .slice .shared 6 (m.map eR)),(12, .slice .shared 2 (l.map gp)),(13, .int .i64 (l.length:Int)),(14, .int .i64 (i.2.2:Int))]) (fun i=>⟨[],[]⟩) ?_ (l,m,0) ⟨rfl,rfl,h⟩)
 rintro⟨r1,r2,k⟩ ⟨h1,h2,h⟩ IH
 dsimp only at h1 h2 h
 cases r1 with
 |nil=>
  have hD:=drop_nil h1
  simp only[Hu]at h
  subst h
  repeat' (first
 |simp only[go_sem,hD,gA,gB,gC]
 |(with_reducible refine aD hQ ?_;exact bx))
 | cons a r1=>
  obtain⟨gA,g2,hD,g4⟩:=drop_cons h1
  cases r2 with
  |nil=>have:=List.drop_eq_nil_iff.1 h2;omega
  | cons b r2=>
   obtain⟨Wl,b2,Tp,_⟩:=drop_cons h2
   have cH:k<4611686018427387904:=by omega
   simp only[Hu]at h
   have w1:(true==true)=true:=rfl
   have w2:(false==false)=true:=rfl
   have w3:(true==false)=false:=rfl
   have w4:(false==true)=false:=rfl
   have v1:(true != true)=false:=rfl
   have v2:(false != false)=false:=rfl
   have v3:(true != false)=true:=rfl
   have v4:(false != true)=true:=rfl
   rcases Bool.eq_false_or_eq_true a.ref with ea|ea
   ·rcases Bool.eq_false_or_eq_true b.ref with eb | eb
    ·simp only [ea,eb,w1,w2,if_true]at h
     repeat' (first
 |simp only[go_sem,hD,gA,gB,gC,Wl,Tp,ea,eb,w1,w2,v1,v2]
 | (with_reducible refine aD hQ ?_;exact bx))
     refine dW 0 0 ?_ ?_ (IH (r1,r2,k+1) ⟨g2,b2,h⟩ (Nat.lt_succ_self _))
     ·(simp only[go_sem,hD,gA,gB,gC,aH cH];try exact bO)
     ·(simp only[go_sem,hD,gA,gB,gC,aH cH];try exact bO)
    ·simp only [ea,eb,w3,w4,Bool.false_eq_true,if_false]at h
     subst h
     repeat' (first
 |simp only[go_sem,hD,gA,gB,gC,Wl,Tp,ea,eb,w3,w4,v3,v4]
 | (with_reducible refine aD hQ ?_;exact bx))
   ·rcases Bool.eq_false_or_eq_true b.ref with eb | eb
    ·simp only [ea,eb,w3,w4,Bool.false_eq_true,if_false]at h
     subst h
     repeat' (first
 |simp only[go_sem,hD,gA,gB,gC,Wl,Tp,ea,eb,w3,w4,v3,v4]
 | (with_reducible refine aD hQ ?_;exact bx))
    ·simp only [ea,eb,w1,w2,if_true]at h
     repeat' (first
 |simp only[go_sem,hD,gA,gB,gC,Wl,Tp,ea,eb,w1,w2,v1,v2]
 |(with_reducible refine aD hQ ?_;exact bx))
     refine dW 0 0 ?_ ?_ (IH (r1,r2,k+1) ⟨g2,b2,h⟩ (Nat.lt_succ_self _))
     ·(simp only[go_sem,hD,gA,gB,gC,aH cH];try exact bO)
     ·(simp only[go_sem,hD,gA,gB,gC,aH cH];try exact bO)
theorem ahg {p:Pg} {v:Sm} (h:p.jv) (hv:v.oy) (s:St):aE Tryz.prog xw [.agg (bJ p), .agg (aS v)] s (.bool (v.pb p)) s:=by
 refine aE.pure ?_ (by simp[D.bK,D.ok,jh,pI]) rfl s
 obtain⟨sT,sC,sB⟩:=h.procs
 have s6:v.args.length<1000000000:=by have:=Ar.dJ v.args;have:=hv.2.2;omega
 generalize hR:v.pb p=R
 simp only[Sm.pb]at hR
 unfold S0
 have b0:(v.kind != 4) = !(v.kind==4):=rfl
 rcases Bool.eq_false_or_eq_true (v.kind==4)with b1|b1
 case inr=>
  rw[b1]at b0
  simp only[b1,Bool.false_and]at hR
  subst hR
  refine aE.go AJ rfl fun B Q hB hQ=>?_
  have⟨hD,gA,gB,gC⟩:=cd
  repeat' (first
 |simp only[go_sem,hD,gA,gB,gC,b0,Bool.not_false]
 |(with_reducible refine aD hQ ?_;exact bx))
 rw[b1]at b0
 simp only[b1,Bool.true_and,Pg.find]at hR
 refine aE.go AJ rfl fun B Q hB hQ=>?_
 have⟨hD,gA,gB,gC⟩:=cd
 repeat' (first
 |simp only[go_sem,hD,gA,gB,gC,b0,Bool.not_true]
 |(with_reducible refine aD hQ ?_;exact bx))
 refine fj 2 0 (bl.ind (ι:=List Pc×Nat) (fun i=>p.procs.drop i.2=i.1∧(match gQ v.proc i.1 with|none=>false|some q=>En q.params v.args)=R) (fun i=>i.1.length)
  (fun i=> [(3, .ptr 1 0),(11, .slice .shared 5 (p.procs.map bG)),(12, .int .i64 (p.procs.length:Int)),(13, .int .i64 (i.2:Int))]) (fun i=>⟨[bJ p,aS v],[]⟩) ?_ (p.procs,0) ⟨rfl,hR⟩)
 clear hR
 rintro⟨rest,k⟩ ⟨h1,hR⟩ IH
 dsimp only at h1 hR
 cases rest with
 |nil=>
  have hD:=drop_nil h1
  simp only[gQ]at hR
  subst hR
  repeat' (first
 |simp only[go_sem,hD,gA,gB,gC]
 |(with_reducible refine aD hQ ?_;exact bx))
 | cons a rest=>
  obtain⟨gA,g2,hD,g4⟩:=drop_cons h1
  have cH:k<4611686018427387904:=by omega
  have ub:=h.small (List.mem_of_getElem? gA)
  have hsa:=fun s=>ahf (l:=a.params) (m:=v.args) (by have:=ub.par;omega) s6 s
  simp only[gQ]at hR
  rcases Bool.eq_false_or_eq_true (a.name==v.proc)with c1|c1
  ·simp only [c1,if_true]at hR
   subst hR
   repeat' (first
 |simp only[go_sem,hD,gA,gB,gC,c1]
 |(with_reducible refine CU (hsa _) ?_)
 | (with_reducible refine aD hQ ?_;exact bx))
  ·simp only [c1,Bool.false_eq_true,if_false]at hR
   repeat' (first
 |simp only[go_sem,hD,gA,gB,gC,c1]
 | (with_reducible refine aD hQ ?_;exact bx))
   refine dW 2 0 ?_ ?_ (IH (rest,k+1) ⟨g2,hR⟩ (Nat.lt_succ_self _))
   ·(simp only[go_sem,hD,gA,gB,gC,aH cH];try exact bO)
   ·(simp only[go_sem,hD,gA,gB,gC,aH cH];try exact bO)
def Hv (p:Pg):List Sm→Option Sm
 | []=>none
 |v::l=>if v.kind==4 && !(v.pb p)then some v else Hv p l
def rL (c:Int):Option Sm→Int×Int
 |some v=>(c,v.id)
 |none=>(0,0)
def Pg.arity (p:Pg):Int×Int:=if p.scope.1==0 then rL 6 (Hv p p.pre)else(1,0)
theorem Pg.jv.pre {p:Pg} (h:p.jv) : ∀ v∈p.pre,v.oy:=fun v m=>by
 simp only[Pg.pre,List.mem_flatten,List.mem_map]at m
 obtain⟨l,⟨f,hf,rfl⟩,m⟩:=m
 exact h.said hf v m
theorem No {p:Pg} (h:p.jv) (s:St):aE Tryz.prog rS [.agg (bJ p)] s (.agg [.int .i64 p.arity.1, .int .i64 p.arity.2]) s:=by
 refine aE.pure ?_ (by simp[D.bK,D.ok,jh]) rfl s
 obtain⟨sT,sC,sB⟩:=h.procs
 have qV:=fun s=>xK h s
 have dC:=fun s=>Ej (p:=p) (by omega) s
 have hL:=(oT p).1
 have JO:=qy p
 generalize hR:p.arity=R
 simp only[Pg.arity]at hR
 unfold S0
 have b0:(p.scope.1 != 0) = !(p.scope.1==0):=rfl
 rcases Bool.eq_false_or_eq_true (p.scope.1==0)with b1|b1
 case inr=>
  rw[b1]at b0
  simp only[b1,Bool.false_eq_true,if_false]at hR
  subst hR
  refine aE.go yz rfl fun B Q hB hQ=>?_
  have⟨hD,gA,gB,gC⟩:=cd
  repeat' (first
 |simp only[go_sem,hD,gA,gB,gC,b0,Bool.not_false]
 |(with_reducible refine CU (qV _) ?_)
 |(with_reducible refine aD hQ ?_;exact bx))
 rw[b1]at b0
 simp only[b1,if_true, ← hL]at hR
 refine aE.go yz rfl fun B Q hB hQ=>?_
 have⟨hD,gA,gB,gC⟩:=cd
 repeat' (first
 |simp only[go_sem,hD,gA,gB,gC,b0,Bool.not_true,o9]
 |(with_reducible refine CU (qV _) ?_)
 |(with_reducible refine CU (dC _) ?_)
 |(with_reducible refine aD hQ ?_;exact bx))
 refine fj 2 0 (bl.ind (ι:=List Im×Nat) (fun i=>p.bc.L.drop i.2=i.1∧rL 6 (Hv p (i.1.map Im.s))=R) (fun i=>i.1.length)
  (fun i=> [(1, .ptr 0 0),(2, .ptr 1 0),(14, .slice .shared 17 (p.bc.L.map dM)),(15, .int .i64 (p.bc.L.length:Int)),(16, .int .i64 (i.2:Int))]) (fun i=>⟨[bJ p,[.int .i64 0, .int .i64 0]],[]⟩) ?_ (p.bc.L,0) ⟨rfl,hR⟩)
 clear hR
 rintro⟨rest,k⟩ ⟨h1,hR⟩ IH
 dsimp only at h1 hR
 cases rest with
 |nil=>
  have hD:=drop_nil h1
  simp only[List.map_nil,Hv,rL]at hR
  subst hR
  repeat' (first
 |simp only[go_sem,hD,gA,gB,gC]
 |(with_reducible refine aD hQ ?_;exact bx))
 | cons a rest=>
  obtain⟨gA,g2,hD,g4⟩:=drop_cons h1
  have cH:k<4611686018427387904:=by omega
  have DB:a.s∈p.pre:=by rw[← hL];exact List.mem_map_of_mem (List.mem_of_getElem? gA)
  have hf1:=fun s=>ahg h (h.pre _ DB) s
  simp only[List.map_cons,Hv]at hR
  rcases Bool.eq_false_or_eq_true (a.s.kind==4)with c1|c1
  ·rcases Bool.eq_false_or_eq_true (a.s.pb p)with c2 | c2
   ·simp only [c1,c2,Bool.not_true,Bool.and_false,Bool.false_eq_true,if_false]at hR
    repeat' (first
 |simp only[go_sem,hD,gA,gB,gC,c1,c2]
 |(with_reducible refine CU (hf1 _) ?_)
 | (with_reducible refine aD hQ ?_;exact bx))
    refine dW 2 0 ?_ ?_ (IH (rest,k+1) ⟨g2,hR⟩ (Nat.lt_succ_self _))
    ·(simp only[go_sem,hD,gA,gB,gC,aH cH];try exact bO)
    ·(simp only[go_sem,hD,gA,gB,gC,aH cH];try exact bO)
   ·simp only [c1,c2,Bool.not_false,Bool.and_true,if_true,rL]at hR
    subst hR
    repeat' (first
 |simp only[go_sem,hD,gA,gB,gC,c1,c2]
 |(with_reducible refine CU (hf1 _) ?_)
 | (with_reducible refine aD hQ ?_;exact bx))
  ·simp only [c1,Bool.false_and,Bool.false_eq_true,if_false]at hR
   repeat' (first
 |simp only[go_sem,hD,gA,gB,gC,c1]
 |(with_reducible refine CU (hf1 _) ?_)
 | (with_reducible refine aD hQ ?_;exact bx))
   refine dW 2 0 ?_ ?_ (IH (rest,k+1) ⟨g2,hR⟩ (Nat.lt_succ_self _))
   ·(simp only[go_sem,hD,gA,gB,gC,aH cH];try exact bO)
   ·(simp only[go_sem,hD,gA,gB,gC,aH cH];try exact bO)
theorem DC {p:Pg} (h:(p.scope.1==0)=true):p.may=true:=by
 unfold Pg.scope at h
 split at h
 ·assumption
 ·cases h
def oz (out:List aF):List aF→aF→Bool→aF×Bool
 | [],c,a=>(c,a)
 |s::l,c,a=>if !(fv out s) && (!a ||bytesLess s c)then oz out l s true else oz out l c a
def Wn (l out:List aF):List aF:=if(oz out l [] false).2 then out++ [(oz out l [] false).1]else out
def qP (l:List aF):Nat→List aF→List aF
 | 0,out=>out
 |n+1,out=>qP l n (Wn l out)
def lf (l:List aF):List aF:=qP l l.length []
end Go.Abs
namespace Go.Proofs
open Go.Shelf
def Tryz.Pk:Go.Shelf.Ren:=⟨fun| 190=>176| 125=>200| 258=>199| 128=>223| 129=>224| 302=>214| 303=>215| 304=>216| 305=>217| 306=>218| 307=>219| 308=>220| 309=>221| 310=>222| 333=>236| 329=>237| 330=>238| 334=>239| 335=>240| 336=>241| 344=>244|n=>n,fun| 31=>22| 9=>9| 3=>3| 46=>220| 0=>0| 51=>241| 53=>200| 4=>4| 183=>234| 182=>233| 131=>158| 5=>5| 218=>248| 222=>252| 228=>255| 229=>256|n=>n,fun|n=>n⟩
theorem Tryz.P5:Go.Proofs.Lays.n190 Tryz.prog Tryz.Pk:= {
 mixed:=by kernel_rfl
 f125:=Tryz.func200.trans (congrArg some (by kernel_rfl))
 f128:=Tryz.func223.trans (congrArg some (by kernel_rfl))
 f129:=Tryz.func224.trans (congrArg some (by kernel_rfl))
 f190:=Tryz.func176.trans (congrArg some (by kernel_rfl))
 f258:=Tryz.func199.trans (congrArg some (by kernel_rfl))
 f302:=Tryz.func214.trans (congrArg some (by kernel_rfl))
 f303:=Tryz.func215.trans (congrArg some (by kernel_rfl))
 f304:=Tryz.func216.trans (congrArg some (by kernel_rfl))
 f305:=Tryz.func217.trans (congrArg some (by kernel_rfl))
 f306:=Tryz.func218.trans (congrArg some (by kernel_rfl))
 f307:=Tryz.func219.trans (congrArg some (by kernel_rfl))
 f308:=Tryz.func220.trans (congrArg some (by kernel_rfl))
 f309:=Tryz.func221.trans (congrArg some (by kernel_rfl))
 f310:=Tryz.func222.trans (congrArg some (by kernel_rfl))
 f329:=Tryz.func237.trans (congrArg some (by kernel_rfl))
 f330:=Tryz.func238.trans (congrArg some (by kernel_rfl))
 f333:=Tryz.func236.trans (congrArg some (by kernel_rfl))
 f334:=Tryz.func239.trans (congrArg some (by kernel_rfl))
 f335:=Tryz.func240.trans (congrArg some (by kernel_rfl))
 f336:=Tryz.func241.trans (congrArg some (by kernel_rfl))
 f344:=Tryz.func244.trans (congrArg some (by kernel_rfl))
 t0:=Tryz.underlying0
 a0:=Tryz.isAgg0
 z0:=Tryz.sizeOf0
 v0:=Tryz.zeroValue0
 t3:=Tryz.underlying3
 a3:=Tryz.isAgg3
 z3:=Tryz.sizeOf3
 v3:=Tryz.zeroValue3
 t4:=Tryz.underlying4
 a4:=Tryz.isAgg4
 z4:=Tryz.sizeOf4
 v4:=Tryz.zeroValue4
 t5:=Tryz.underlying5
 a5:=Tryz.isAgg5
 z5:=Tryz.sizeOf5
 v5:=Tryz.zeroValue5
 t9:=Tryz.underlying9
 a9:=Tryz.isAgg9
 z9:=Tryz.sizeOf9
 v9:=Tryz.zeroValue9
 t31:=Tryz.underlying22
 a31:=Tryz.isAgg22
 z31:=Tryz.sizeOf22
 v31:=Tryz.zeroValue22
 t46:=Tryz.underlying220
 a46:=Tryz.isAgg220
 z46:=Tryz.sizeOf220
 v46:=Tryz.zeroValue220
 t51:=Tryz.underlying241
 a51:=Tryz.isAgg241
 z51:=Tryz.sizeOf241
 v51:=Tryz.zeroValue241
 t53:=Tryz.underlying200
 a53:=Tryz.isAgg200
 z53:=Tryz.sizeOf200
 v53:=Tryz.zeroValue200
 t131:=Tryz.underlying158
 a131:=Tryz.isAgg158
 z131:=Tryz.sizeOf158
 v131:=Tryz.zeroValue158
 t182:=Tryz.underlying233
 a182:=Tryz.isAgg233
 z182:=Tryz.sizeOf233
 v182:=Tryz.zeroValue233
 t183:=Tryz.underlying234
 a183:=Tryz.isAgg234
 z183:=Tryz.sizeOf234
 v183:=Tryz.zeroValue234
 t218:=Tryz.underlying248
 a218:=Tryz.isAgg248
 z218:=Tryz.sizeOf248
 v218:=Tryz.zeroValue248
 t222:=Tryz.underlying252
 a222:=Tryz.isAgg252
 z222:=Tryz.sizeOf252
 v222:=Tryz.zeroValue252
 t228:=Tryz.underlying255
 a228:=Tryz.isAgg255
 z228:=Tryz.sizeOf255
 v228:=Tryz.zeroValue255
 t229:=Tryz.underlying256
 a229:=Tryz.isAgg256
 z229:=Tryz.sizeOf256
 v229:=Tryz.zeroValue256}
open Go.Sort Go.RowKit in
theorem Tryz.slices_Sort_string (DD off cap:Nat) (ss:List (List UInt8)) (w:World) (hH:Holds encStr w DD off ss.toArray) (atP:DD<w.heap.size) (dO:ss.length<4611686018427387904) :
 Calls Tryz.prog 176 #[.slice (some ⟨DD,off,none⟩) ss.length cap] w fun e w'=>
  e = .returned (.tuple #[])∧∃ n os,w'=grow (putRow encStr (Sort.ahead w n) DD off (ss.mergeSort fun x y=>decide (x≤y)).toArray) os:=Any.slices_Sort_string Tryz.P5 DD off cap ss w hH atP dO
def Tryz.Pl:Go.Shelf.Ren:=⟨fun| 194=>177|n=>n,fun| 31=>22| 9=>9| 3=>3| 4=>4| 0=>0|n=>n,fun|n=>n⟩
theorem Tryz.P6:Go.Proofs.Lays.n194 Tryz.prog Tryz.Pl:= {
 mixed:=by kernel_rfl
 f194:=Tryz.func177.trans (congrArg some (by kernel_rfl))
 t0:=Tryz.underlying0
 a0:=Tryz.isAgg0
 z0:=Tryz.sizeOf0
 v0:=Tryz.zeroValue0
 t3:=Tryz.underlying3
 a3:=Tryz.isAgg3
 z3:=Tryz.sizeOf3
 v3:=Tryz.zeroValue3
 t4:=Tryz.underlying4
 a4:=Tryz.isAgg4
 z4:=Tryz.sizeOf4
 v4:=Tryz.zeroValue4
 t9:=Tryz.underlying9
 a9:=Tryz.isAgg9
 z9:=Tryz.sizeOf9
 v9:=Tryz.zeroValue9
 t31:=Tryz.underlying22
 a31:=Tryz.isAgg22
 z31:=Tryz.sizeOf22
 v31:=Tryz.zeroValue22}
open Go.RowKit Go.Lib Go.Sort in
theorem Tryz.slices_Compact_string (DD off cap:Nat) (zs:List (List UInt8)) (w:World) (hH:Holds encStr w DD off zs.toArray) (dO:zs.length≤9223372036854775807) (vM:zs.length≤cap) :
 Calls Tryz.prog 177 #[.slice (some ⟨DD,off,none⟩) zs.length cap] w fun e w'=>e = .returned (.slice (some ⟨DD,off,none⟩) (Lib.compact zs).length cap)∧∃ q,w'=putRow encStr (Sort.ahead w q) DD off (Lib.compact zs++List.replicate (zs.length - (Lib.compact zs).length) []).toArray:=Any.slices_Compact_string Tryz.P6 DD off cap zs w hH dO vM
open Go.RowKit Go.Lib Go.Sort in
theorem Tryz.slices_Compact_string_empty (a:Option Addr) (cap:Nat) (w:World) :
 Calls Tryz.prog 177 #[.slice a 0 cap] w fun e w'=>e = .returned (.slice a 0 cap)∧w'=w:=Any.slices_Compact_string_empty Tryz.P6 a cap w
open Go.RowKit Go.Sort in
theorem Tryz.slices_Sort_string_none (p:Option Addr) (cap:Nat) (w:World) :
 Calls Tryz.prog 176 #[.slice p 0 cap] w fun e w'=>e = .returned (.tuple #[])∧w'=w:=Any.slices_Sort_string_none Tryz.P5 p cap w
end Go.Proofs
namespace Go.Abs
open Go.Proofs
section
variable {P:Program} {B:gN} {nt:Nat}
theorem adx {x:Operand} {t:Nat} (h:cX x=some (.s t)):x = .tmp t:=by
 unfold cX at h
 split at h
 ·cases h;rfl
 ·obtain⟨d,_,h⟩:=map_some h;cases h
 ·cases h
 ·cases h
theorem Tq {ops:Array Oper} {o:Oper} {g g':Option (Nat×Bool)} {dst:Option Nat} {f:Nat} {xs:List X} (h:uN P ops o g=some (.call dst g' f xs)) :
 g'=g∧∃ args nR,o.op = .call ⟨.value (.func f),args,nR⟩∧enters P f=true∧Aa args.toList=some xs:=by
 unfold uN at h
 split at h
 ·rename_i f' args nR nQ
  split at h
  ·rename_i he
   obtain⟨xs',h1,h2⟩:=map_some h
   cases h2
   exact⟨rfl,args,nR,nQ,he,h1⟩
  ·cases h
 ·obtain⟨_,_,h⟩:=map_some h;cases h
 ·split at h
  ·cases h
  ·split at h<;>cases h
theorem Wo {ops:Array Oper} {o:Oper} {tmps:Array Value} (hg:xb ops o.guard=some none):Region.wanted o (yielded ops tmps)=true:=by
 have:o.guard=none:=by
  cases E2:o.guard with
  |none=>rfl
  |some p=>
   obtain⟨j,b⟩:=p
   rw[E2]at hg
   unfold xb at hg
   simp only at hg
   split at hg<;>cases hg
 simp[Region.wanted,this]
theorem Sem.ahj {a k b f:Nat} {is:List AI} {Q:Exit→Tm→St→Prop} {tm:Tm} {s:St}
 (ak2 : ∀ act w,Holds B nt (tm.put (some a) (tm.get k)) s act w→Calls P f #[act.tmps.getD a Go.undef] w fun e w'=>∃ v,e = .returned v∧∃ bH s',Holds B nt bH s' (act.put (some b) v) w'∧jI P is (Q .normal) bH s') :
 Sem P B nt (.run (.op (some a) none (.mv (.s k)):: .call (some b) none f [.s a]::is)) Q tm s:=by
 intro c hc act w hh
 obtain⟨id,ops,rfl,hi⟩:=mJ hc
 refine wp_region ?_
 have key : ∀ (l:List Nat) (ol:List Oper),l.map (ops[·]?)=ol.map some→sL P nt ops ol=some (.op (some a) none (.mv (.s k)):: .call (some b) none f [.s a]::is)→wpOps P ops (q9 B nt Q) l act w:=by
  intro l ol hl zk
  match ol,l,hl with
  | [],_,_=>simp[sL]at zk
  |o0::ol,[],hl=>simp at hl
  | o0::ol,j0::l,hl=>
   simp only[List.map_cons,List.cons.injEq]at hl
   obtain⟨hj0,hl⟩:=hl
   unfold sL at zk
   split at zk
   ·rename_i i0 is0 h1 h2
    cases zk
    match ol,l,hl,h2 with
    | [],_,_,h2=>simp[sL]at h2
    |o1::ol,[],hl,_=>simp at hl
    | o1::ol,j1::l,hl,h2=>
     simp only[List.map_cons,List.cons.injEq]at hl
     obtain⟨hj1,hl⟩:=hl
     unfold sL at h2
     split at h2
     ·rename_i i1 is1 h3 h4
      cases h2
      obtain⟨M,e,r,ht,hn,hd⟩:=hh
      have Np:=vt h1
      have DE:=vt h3
      simp only[AI.dst]at Np DE
      refine zj (K':=fun bH s'=>bH=tm.put (some a) (tm.get k)∧s'=s) hj0 h1 r (B.laid.ext e) ht (by simp only[jI,guarded,aR,X.ev,and_self]) (fun d v s1 w1 M1 hk e1 r1 hv=>?_)
      obtain⟨yh,rfl⟩:=hk
      have hH:=Holds.put e ht hn hd (Ak h1) e1 r1 hv
      simp only[AI.dst]at yh
      rw[← Np]at hH ⊢
      rw[yh]at hH
      obtain⟨g,hg,_,hb⟩:=Db h3
      obtain⟨rfl,args,nR,nQ,Bj,pS⟩:=Tq hb
      simp only[wpOps,hj1,Wo hg,if_true]
      left
      have atQ:args.map (act.put (some a) v).eval = #[(act.put (some a) v).tmps.getD a Go.undef]:=by
       have:args.toList = [.tmp a]:=by
        match hA:args.toList with
        | []=>rw[hA]at pS;simp[Aa]at pS
        | [x]=>
         rw[hA]at pS
         simp only[Aa]at pS
         split at pS
         ·rename_i x' r' hx hr
          cases pS
          rw[adx hx]
         ·cases pS
        | x::y::z=>
         rw[hA]at pS
         simp only[Aa]at pS
         split at pS
         ·rename_i x' r' hx hr
          cases pS
          split at hr
          ·cases hr
          ·cases hr
         ·cases pS
       have:args = #[.tmp a]:=by rw[← Array.toArray_toList (xs:=args),this]
       rw[this]
       simp only[List.map_toArray,List.map_cons,List.map_nil]
       rfl
      have hex:(execOp (act.put (some a) v).eval o1).run P w1 = .ok (.enter f #[(act.put (some a) v).tmps.getD a Go.undef]) w1:=by
       obtain⟨dst,op,type,pos,after,guard⟩:=o1
       simp only at nQ
       subst nQ
       rw[← atQ]
       exact ze (act.put (some a) v).eval dst f args nR type pos after guard rfl Bj w1
      unfold Oper.wp
      rw[hex,Oper.upon_enter]
      refine(ak2 _ _ hH).mono ?_
      rintro en w' ⟨v',rfl,bH,s',hH',hvc⟩
      rw[← DE]
      exact C7 (Q:=Q) l ol _ hl h4 bH s' _ w' hvc hH'
     ·cases h2
   ·cases zk
 exact key _ _ (C8 ops) hi
theorem JP (hB:B.s = ⟨[],[]⟩) {tm:Tm} {s:St} {act:Act} {w:World} (h:Holds B nt tm s act w) {t:Nat} {l:List aF} (ht:s.ay[t]? = some (some l.length)) {k0:Nat} (hk0:tm.get k0 = .slice (.tok t) 1 (l.map encStr)) :
 (l = []∧∀ k,tm.get k = .slice (.tok t) 1 (l.map encStr)→(act.tmps.getD k Go.undef = .slice none 0 0∨∃ b q,act.tmps.getD k Go.undef = .slice (some ⟨b,q,none⟩) 0 0))∨
 ∃ (b cap:Nat) (vs:Array Value) (T:TypeId),(∀ k,tm.get k = .slice (.tok t) 1 (l.map encStr)→act.tmps.getD k Go.undef = .slice (some ⟨b,0,none⟩) l.length cap)∧l.length≤cap∧w.heap[b]? = some (.cells vs T (0,0))∧vs.size=cap∧B.w.heap.size≤b∧
  ∀ j (hj:j<l.length),vs[j]? = some (.string ⟨⟨l[j]⟩⟩):=by
 obtain⟨M,e,r,hr,_,_⟩:=h
 rcases r.tok t _ ht with ⟨h3,h4⟩|⟨b,cap,z,vs,T,h3,h4,h5,h6,h7⟩
 ·have hl:l = []:=List.eq_nil_of_length_eq_zero h4
  subst hl
  refine .inl ⟨rfl,fun k hk=>?_⟩
  have hv:=hr k
  rw[hk]at hv
  generalize act.tmps.getD k Go.undef=v at hv
  cases hv with
  |jy _ _ cap hc qW=>subst hc;exact .inl rfl
  |slice _ _ _ b q cap hl hs h1 h2 qW=>
   rcases(qW.2 _ ht).2 rfl with ⟨_,h0,_⟩|⟨b',_,lL⟩
   ·subst h0;exact .inr ⟨b,q,rfl⟩
   ·rw[h3]at lL;cases lL
 ·right
  have each : ∀ k,tm.get k = .slice (.tok t) 1 (l.map encStr)→z=1∧act.tmps.getD k Go.undef = .slice (some ⟨b,0,none⟩) l.length cap∧l.length≤cap∧∀ j (hj:j<l.length),∃ u,M.G b j=some u∧RD M s (.str l[j]) u:=by
   intro k hk
   have hv:=hr k
   rw[hk]at hv
   generalize act.tmps.getD k Go.undef=v at hv
   generalize k8:l.map encStr=rows at hv
   cases hv with
   |jy _ _ cap hc qW=>
    have hl:l = []:=by cases l<;>simp at k8;rfl
    subst hl
    rcases(qW.2 _ ht).2 rfl with ⟨h0,_⟩|⟨b',h0,_⟩
    ·rw[h3]at h0;cases h0
    ·cases h0
   | slice _ _ _ b2 q aBZ hl hs h1 h2 qW=>
    subst k8
    rw[List.length_map]at hl qW
    rcases(qW.2 _ ht).2 rfl with ⟨h0,_⟩|⟨b',hb,lL⟩
    ·rw[h3]at h0;cases h0
    ·cases hb
     rw[h3]at lL
     cases lL
     refine⟨rfl,by rw[List.length_map],hl,fun j hj=>?_⟩
     have e1:(l.map encStr)[j]? = some [.str l[j]]:=by rw[List.getElem?_map,List.getElem?_eq_getElem hj];rfl
     obtain⟨u,hu⟩:=h1 j _ 0 _ e1 rfl
     refine⟨u,by simpa using hu,h2 j _ 0 _ u e1 rfl hu⟩
  obtain⟨rfl,_,vM,nr⟩:=each k0 hk0
  have dC:B.w.heap.size≤b:=by
   rcases e.qY t b cap 1 ⟨_,ht⟩ h3 with ⟨⟨n,hn⟩,_⟩|h
   ·rw[hB]at hn;simp at hn
   ·exact h
  refine⟨b,cap,vs,T,fun k hk=>(each k hk).2.1,vM,h4,by simpa[zs]using h5,dC,fun j hj=>?_⟩
  obtain⟨u,hu,jz⟩:=nr j hj
  have:=(r.comm _ _ _ hu).1
  rw[jo h4,jz.mw]at this
  exact this
theorem Nq (hB:B.s = ⟨[],[]⟩) {tm:Tm} {s:St} {act wg:Act} {w w':World} (h:Holds B nt tm s act w) {b cap:Nat} {vs:Array Value} {T:TypeId} (dO:vs.size=cap) (u5:B.w.heap.size≤b)
 (nj : ∀ q,q<B.w.heap.size→w'.heap[q]? = w.heap[q]?) (er:w'.heap[b]? = some (.cells vs T (0,0))) (wv:w.heap.size≤w'.heap.size) (tY:w'.os=w.os) (GG:w'.tape=w.tape) (XO:w'.output=w.output)
 {l:List aF} (hl:l.length≤cap) (nr : ∀ j (hj:j<l.length),vs[j]? = some (.string ⟨⟨l[j]⟩⟩)) {k:Nat} (Tr:wg.tmps.getD k Go.undef = .slice (some ⟨b,0,none⟩) l.length cap) (hn:wg.tmps.size=nt) (hd:wg.defers = []) :
 Holds B nt [(k, .slice (.tok 0) 1 (l.map encStr))] ⟨[],[some l.length]⟩ wg w':=by
 obtain⟨M,e,r,hr,_,_⟩:=h
 let M':Map:=⟨fun q o=>if q=b then(if o<l.length then(l[o]?).map fun x=>Value.string ⟨⟨x⟩⟩else none)else B.M.G q o,B.M.loc,fun _=>some (b,cap,1)⟩
 have hGb : ∀ q o v,B.M.G q o=some v→q<B.w.heap.size∧w'.cell? ⟨q,o,none⟩=some v∧v.oneCell'=true:=by
  intro q o v hq
  obtain⟨h1,h2⟩:=r.comm q o v (e.le.G q o v hq)
  have hD:=B.E6 q o v hq
  refine⟨hD, ?_,h2⟩
  rw[← h1]
  simp[World.cell?,nj q hD]
 have ix : ∀ j (hj:j<l.length),w'.cell? ⟨b,j,none⟩=some (.string ⟨⟨l[j]⟩⟩):=fun j hj=>by rw[jo er];exact nr j hj
 have gA : ∀ (j:Nat) v,(if j<l.length then(l[j]?).map fun x=>Value.string ⟨⟨x⟩⟩else none)=some v→∃ hj:j<l.length,v = .string ⟨⟨l[j]⟩⟩:=by
  intro j v hv
  split at hv
  ·rename_i hj
   rw[List.getElem?_eq_getElem hj]at hv
   exact⟨hj,by simpa using hv.symm⟩
  ·cases hv
 refine⟨M',⟨⟨fun q o v hq=>?_,by simp[hB],fun o ho=> .refl _,by rw[hB];exact Nat.zero_le _,fun t n' ht _=>by rw[hB]at ht;exact absurd ht (Nat.not_lt_zero _)⟩,fun q hq _ _=>?_,fun o _ h2=>absurd h2 (Nat.not_lt_zero _),fun t q c z _ hb=>?_,fun q o fm=>?_,Nat.le_trans e.size wv,tY.trans e.os,GG.trans e.tape,XO.trans e.output⟩,
  ⟨fun q o v hq=>?_,fun o ds ho=>by simp at ho,fun o ho=>absurd ho (Nat.not_lt_zero _),fun o o' ho=>absurd ho (Nat.not_lt_zero _),fun t n ht=>?_,fun t q c z o _ _ ho=>absurd ho (Nat.not_lt_zero _),fun t t' q c z c' z' tx kX _ _=>?_⟩,fun u=>?_,hn,hd⟩
 ·show(if q=b then _ else B.M.G q o)=some v
  rw[if_neg (by have:=(hGb q o v hq).1;omega)]
  exact hq
 ·rw [nj q hq]
  exact e.kept q hq (fun o ho=>by rw[hB]at ho;exact absurd ho (Nat.not_lt_zero _)) (fun t c z kX=>by rw[hB]at kX;obtain⟨n,Cf⟩:=kX;simp at Cf)
 ·cases hb;exact .inr u5
 ·by_cases hq:q=b
  ·subst hq;exact .inl u5
  ·exact absurd (show(if q=b then _ else B.M.G q o)=B.M.G q o from if_neg hq) fm
 ·have kW:(if q=b then(if o<l.length then(l[o]?).map fun x=>Value.string ⟨⟨x⟩⟩else none)else B.M.G q o)=some v:=hq
  by_cases hqb:q=b
  ·rw [if_pos hqb]at kW
   obtain⟨hj,rfl⟩:=gA o v kW
   rw[hqb]
   exact⟨ix o hj,rfl⟩
  ·rw [if_neg hqb]at kW
   exact(hGb q o v kW).2
 ·match t with
  | 0=>
   simp at ht
   subst ht
   refine .inr ⟨b,cap,1,vs,T,rfl,er,by simp[zs,dO],hl,fun off ho=>?_,fun h=>by cases h⟩
   show(if b=b then(if off<l.length then _ else none)else B.M.G b off)=none
   rw[if_pos rfl,if_neg (by simp[zs]at ho;omega)]
  |t+1=>simp at ht
 ·obtain⟨n1,h1⟩:=tx
  obtain⟨n2,h2⟩:=kX
  have a1:=(List.getElem?_eq_some_iff.1 h1).1
  have a2:=(List.getElem?_eq_some_iff.1 h2).1
  simp at a1 a2
  omega
 ·simp only [Tm.get]
  split
  ·rename_i hku
   subst hku
   rw[Tr]
   have:=RD.slice (M:=M') (s:=⟨[],[some l.length]⟩) (.tok 0) 1 (l.map encStr) b 0 cap (by simpa using hl) (fun row hr=>by
    obtain⟨x,_,rfl⟩:=List.mem_map.1 hr;rfl) (fun i row j d e1 e2=>?_) (fun i row j d u e1 e2 eu=>?_) ⟨by simp,fun n Cf=>by
    simp at Cf
    subst Cf
    exact⟨by simp,fun _=> .inr ⟨b,rfl,rfl⟩⟩⟩
   ·simpa using this
   ·rw [List.getElem?_map]at e1
    cases B8:l[i]? with
    |none=>rw[B8]at e1;cases e1
    |some x=>
     have sw:=(List.getElem?_eq_some_iff.1 B8).1
     rw[B8]at e1
     cases e1
     have hj:j=0:=by cases j with|zero=>rfl|succ j=>simp[encStr]at e2
     subst hj
     refine⟨.string ⟨⟨x⟩⟩, ?_⟩
     show(if b=b then(if 0+(i*1+0)<l.length then _ else none)else _)=_
     rw[if_pos rfl,if_pos (by omega)]
     simp[B8]
   ·rw [List.getElem?_map]at e1
    cases B8:l[i]? with
    |none=>rw[B8]at e1;cases e1
    |some x=>
     have sw:=(List.getElem?_eq_some_iff.1 B8).1
     rw[B8]at e1
     cases e1
     have hj:j=0:=by cases j with|zero=>rfl|succ j=>simp[encStr]at e2
     subst hj
     have Cj:(if b=b then(if 0+(i*1+0)<l.length then(l[0+(i*1+0)]?).map fun x=>Value.string ⟨⟨x⟩⟩else none)else B.M.G b (0+(i*1+0)))=some u:=eu
     rw[if_pos rfl,if_pos (by omega)]at Cj
     simp[B8]at Cj
     subst Cj
     simp[encStr]at e2
     subst e2
     exact .str x
  ·exact .junk _
theorem P7 (hB:B.s = ⟨[],[]⟩) {tm:Tm} {s:St} {act wg:Act} {w:World} (h:Holds B nt tm s act w) {k:Nat} (Tr:wg.tmps.getD k Go.undef = .slice none 0 0∨∃ b q,wg.tmps.getD k Go.undef = .slice (some ⟨b,q,none⟩) 0 0) (hn:wg.tmps.size=nt) (hd:wg.defers = []) :
 Holds B nt [(k, .slice (.tok 0) 1 (([] : List aF).map encStr))] ⟨[],[some 0]⟩ wg w:=by
 obtain⟨M,e,r,hr,_,_⟩:=h
 let M':Map:=⟨B.M.G,B.M.loc,fun _=>none⟩
 refine⟨M',⟨⟨fun q o v hq=>hq,by simp[hB],fun o ho=> .refl _,by rw[hB];exact Nat.zero_le _,fun t n' ht _=>by rw[hB]at ht;exact absurd ht (Nat.not_lt_zero _)⟩,fun q hq _ _=>?_,fun o _ h2=>absurd h2 (Nat.not_lt_zero _),fun t q c z _ hb=>(by cases hb),fun q o fm=>absurd rfl fm,e.size,e.os,e.tape,e.output⟩,
  ⟨fun q o v hq=>r.comm q o v (e.le.G q o v hq),fun o ds ho=>by simp at ho,fun o ho=>absurd ho (Nat.not_lt_zero _),fun o o' ho=>absurd ho (Nat.not_lt_zero _),fun t n ht=>?_,fun t q c z o _ _ ho=>absurd ho (Nat.not_lt_zero _),fun t t' q c z c' z' tx kX h1 _=>by cases h1⟩,fun u=>?_,hn,hd⟩
 ·exact e.kept q hq (fun o ho=>by rw[hB]at ho;exact absurd ho (Nat.not_lt_zero _)) (fun t c z kX=>by rw[hB]at kX;obtain⟨n,Cf⟩:=kX;simp at Cf)
 ·match t with
  | 0=>simp at ht;subst ht;exact .inl ⟨rfl,rfl⟩
  |t+1=>simp at ht
 ·simp only [Tm.get]
  split
  ·rename_i hku
   subst hku
   have qW : ∀ base,jB M' ⟨[],[some 0]⟩ (.tok 0) 1 0 base 0:=fun base=>⟨by simp,fun n Cf=>by
    simp at Cf
    subst Cf
    exact⟨Nat.le_refl _,fun _=> .inl ⟨rfl,rfl,fun h=>by cases h⟩⟩⟩
   rcases Tr with h|⟨b,q,h⟩
   ·rw[h];exact .jy _ _ 0 rfl (qW none)
   ·rw[h];exact .slice (.tok 0) 1 [] b q 0 (Nat.le_refl _) (by simp) (by simp) (by simp) (qW _)
  ·exact .junk _
theorem Nr {α:Type} [Inhabited α] (enc:α→Value) (d:Array α) (c:Array Value) (j:Nat):(Sort.putCells enc 0 d c)[j]? = if j<d.size then(c[j]?).map fun _=>enc d[j]! else c[j]? :=by
 simp only[Sort.putCells,Array.getElem?_mapIdx]
 cases h:c[j]? with
 |none=>simp
 |some x=>by_cases hj:j<d.size<;>simp[hj]
theorem JQ {w:World} {b n cap:Nat} {vs:Array Value} {T:TypeId} (er:w.heap[b]? = some (.cells vs T (0,0))) (dO:vs.size=cap) (l:List aF) (hl:l.length≤cap) (os:Array Obj) :
 (∀ q,q≠b→q<w.heap.size→(Sort.grow (Sort.putRow Go.Proofs.encStr (Sort.ahead w n) b 0 l.toArray) os).heap[q]? = w.heap[q]?)∧
 (Sort.grow (Sort.putRow Go.Proofs.encStr (Sort.ahead w n) b 0 l.toArray) os).heap[b]? = some (.cells (Sort.putCells Go.Proofs.encStr 0 l.toArray vs) T (0,0))∧w.heap.size≤(Sort.grow (Sort.putRow Go.Proofs.encStr (Sort.ahead w n) b 0 l.toArray) os).heap.size∧
 (Sort.putCells Go.Proofs.encStr 0 l.toArray vs).size=cap∧∀ j (hj:j<l.length),(Sort.putCells Go.Proofs.encStr 0 l.toArray vs)[j]? = some (.string ⟨⟨l[j]⟩⟩):=by
 have hb:b<w.heap.size:=(Array.getElem?_eq_some_iff.1 er).1
 refine⟨fun q hq hD=>?_, ?_, ?_, ?_,fun j hj=>?_⟩
 ·simp only [Sort.grow,Sort.putRow,Sort.mapBlock,Sort.ahead]
  rw[Array.getElem?_append_left (by simpa using hD),Array.getElem?_modify]
  simp[Ne.symm hq]
 ·simp only [Sort.grow,Sort.putRow,Sort.mapBlock,Sort.ahead]
  rw[Array.getElem?_append_left (by simpa using hb),Array.getElem?_modify]
  simp[er,Sort.onCells]
 ·simp[Sort.grow,Sort.putRow,Sort.mapBlock,Sort.ahead]
 ·simp[Sort.putCells,dO]
 ·rw [Nr]
  have h1:j<l.toArray.size:=by simpa using hj
  have h2:vs[j]? = some vs[j]:=Array.getElem?_eq_getElem (by omega)
  rw[if_pos h1,h2]
  simp[hj]
def nC (l:List aF):List aF:=l.mergeSort fun x y=>decide (x≤y)
theorem Ns {act:Act} {b:Nat} {v:Value} {u:Nat} (h:u≠b):(act.put (some b) v).tmps.getD u Go.undef=act.tmps.getD u Go.undef:=by
 simp only[Act.put,Array.getD_eq_getD_getElem?]
 rw[Array.getElem?_setIfInBounds_ne (fun e=>h e.symm)]
theorem JR {act:Act} {b:Nat} {v:Value} (h:b<act.tmps.size):(act.put (some b) v).tmps.getD b Go.undef=v:=by
 simp only[Act.put,Array.getD_eq_getD_getElem?]
 simp[h]
theorem Sem.sort (hB:B.s = ⟨[],[]⟩) {a k b t:Nat} {l:List aF} {is:List AI} {Q:Exit→Tm→St→Prop} {tm:Tm} {s:St} (hak:a≠k) (hbk:b≠k) (hab:a≠b)
 (hk:tm.get k = .slice (.tok t) 1 (l.map encStr)) (ht:s.ay[t]? = some (some l.length)) (hl:l.length<4611686018427387904)
 (h:jI Tryz.prog is (Q .normal) [(k, .slice (.tok 0) 1 ((nC l).map encStr))] ⟨[],[some l.length]⟩) :
 Sem Tryz.prog B nt (.run (.op (some a) none (.mv (.s k)):: .call (some b) none kj [.s a]::is)) Q tm s:=by
 refine Sem.ahj fun act w hh=>?_
 have B4:(tm.put (some a) (tm.get k)).get k = .slice (.tok t) 1 (l.map encStr):=by rw[Tm.mB,if_neg (by simpa using hak)];exact hk
 have Nt:(tm.put (some a) (tm.get k)).get a = .slice (.tok t) 1 (l.map encStr):=by rw[Tm.mB,if_pos rfl];exact hk
 have Hw:(nC l).length=l.length:=List.length_mergeSort l
 have hn:(act.put (some b) (.tuple #[])).tmps.size=nt:=by obtain⟨_,_,_,_,h1,_⟩:=hh;simpa[Act.put]using h1
 have hd:(act.put (some b) (.tuple #[])).defers = []:=by obtain⟨_,_,_,_,_,h1⟩:=hh;simpa[Act.put]using h1
 have dO:(act.tmps).size=nt:=by obtain⟨_,_,_,_,h1,_⟩:=hh;exact h1
 rcases JP hB hh ht Nt with ⟨rfl,hv⟩|⟨b',cap,vs,T,hv,vM,er,vl,u5,nr⟩
 ·rw [show nC [] = [] by simp [nC]]at h
  have call : ∀ p,act.tmps.getD a Go.undef = .slice p 0 0→Calls Tryz.prog kj #[act.tmps.getD a Go.undef] w fun e w'=>∃ v,e = .returned v∧∃ bH s',Holds B nt bH s' (act.put (some b) v) w'∧jI Tryz.prog is (Q .normal) bH s':=by
   intro p hp
   rw[hp]
   refine(Tryz.slices_Sort_string_none p 0 w).mono ?_
   rintro e w' ⟨rfl,rfl⟩
   refine⟨_,rfl,_,_,P7 hB hh (k:=k) ?_ hn hd,h⟩
   rw[Ns (Ne.symm hbk)]
   exact hv k B4
  rcases hv a Nt with h1|⟨b',q,h1⟩
  ·exact call _ h1
  ·exact call _ h1
 ·rw [hv a Nt]
  have hD:b'<w.heap.size:=(Array.getElem?_eq_some_iff.1 er).1
  refine(Tryz.slices_Sort_string b' 0 cap l w (fun j hj=>?_) hD hl).mono ?_
  ·have Wp:j<l.length:=by simpa using hj
   refine⟨?_,by simp[World.frozen?,er]⟩
   rw[Nat.zero_add,jo er,nr j Wp]
   simp[Wp]
  ·rintro e w' ⟨rfl,n,os,rfl⟩
   obtain⟨p1,p2,p3,p4,p5⟩:=JQ (n:=n) er vl (nC l) (by omega) os
   have hH:=Nq hB hh (wg:=act.put (some b) (.tuple #[])) (l:=nC l) (k:=k) p4 u5 (fun q hq=>p1 q (by omega) (by obtain⟨M,e,_⟩:=hh;exact Nat.lt_of_lt_of_le hq e.size)) p2 p3 rfl rfl rfl (by omega) p5 (by rw[Ns (Ne.symm hbk),hv k B4,Hw]) hn hd
   rw[Hw]at hH
   exact⟨_,rfl,_,_,hH,h⟩
theorem Pn (l:List aF):(Lib.compact l).length≤l.length:=by
 unfold Lib.compact Lib.compactUpTo
 rw[List.length_map]
 exact Nat.le_trans (List.length_filter_le _ _) (by simp)
theorem Sem.compact (hB:B.s = ⟨[],[]⟩) {a k b t:Nat} {l:List aF} {is:List AI} {Q:Exit→Tm→St→Prop} {tm:Tm} {s:St} (hbt:b<nt)
 (hk:tm.get k = .slice (.tok t) 1 (l.map encStr)) (ht:s.ay[t]? = some (some l.length)) (hl:l.length<4611686018427387904)
 (h:jI Tryz.prog is (Q .normal) [(b, .slice (.tok 0) 1 ((Lib.compact l).map encStr))] ⟨[],[some (Lib.compact l).length]⟩) :
 Sem Tryz.prog B nt (.run (.op (some a) none (.mv (.s k)):: .call (some b) none kE [.s a]::is)) Q tm s:=by
 refine Sem.ahj fun act w hh=>?_
 have Nt:(tm.put (some a) (tm.get k)).get a = .slice (.tok t) 1 (l.map encStr):=by rw[Tm.mB,if_pos rfl];exact hk
 have dO:(act.tmps).size=nt:=by obtain⟨_,_,_,_,h1,_⟩:=hh;exact h1
 have hn : ∀ v,(act.put (some b) v).tmps.size=nt:=fun v=>by simpa[Act.put]using dO
 have hd : ∀ v,(act.put (some b) v).defers = []:=by obtain⟨_,_,_,_,_,h1⟩:=hh;intro v;simpa[Act.put]using h1
 rcases JP hB hh ht Nt with ⟨rfl,hv⟩|⟨b',cap,vs,T,hv,vM,er,vl,u5,nr⟩
 ·rw [show Lib.compact ([] : List aF) = []from rfl]at h
  have call : ∀ p,act.tmps.getD a Go.undef = .slice p 0 0→(p=none∨∃ b q,p=some ⟨b,q,none⟩)→Calls Tryz.prog kE #[act.tmps.getD a Go.undef] w fun e w'=>∃ v,e = .returned v∧∃ bH s',Holds B nt bH s' (act.put (some b) v) w'∧jI Tryz.prog is (Q .normal) bH s':=by
   intro p hp hq
   rw[hp]
   refine(Tryz.slices_Compact_string_empty p 0 w).mono ?_
   rintro e w' ⟨rfl,rfl⟩
   refine⟨_,rfl,_,_,P7 hB hh (k:=b) ?_ (hn _) (hd _),h⟩
   rw[JR (by omega)]
   rcases hq with rfl|⟨x,y,rfl⟩
   ·exact .inl rfl
   ·exact .inr ⟨x,y,rfl⟩
  rcases hv a Nt with h1|⟨b',q,h1⟩
  ·exact call _ h1 (.inl rfl)
  ·exact call _ h1 (.inr ⟨b',q,rfl⟩)
 ·rw [hv a Nt]
  have nu:(Lib.compact l).length≤l.length:=Pn l
  refine(Tryz.slices_Compact_string b' 0 cap l w (fun j hj=>?_) (by omega) vM).mono ?_
  ·have Wp:j<l.length:=by simpa using hj
   refine⟨?_,by simp[World.frozen?,er]⟩
   rw[Nat.zero_add,jo er,nr j Wp]
   simp[Wp]
  ·rintro e w' ⟨rfl,q,rfl⟩
   obtain⟨p1,p2,p3,p4,p5⟩:=JQ (n:=q) er vl (Lib.compact l++List.replicate (l.length - (Lib.compact l).length) []) (by simp;omega) #[]
   rw[Sort.grow_empty]at p1 p2 p3
   have hH:=Nq hB hh (wg:=act.put (some b) (.slice (some ⟨b',0,none⟩) (Lib.compact l).length cap)) (l:=Lib.compact l) (k:=b) p4 u5 (fun q hq=>p1 q (by omega) (by obtain⟨M,e,_⟩:=hh;exact Nat.lt_of_lt_of_le hq e.size)) p2 p3 rfl rfl rfl (by omega)
    (fun j hj=>by
     have:=p5 j (by simp;omega)
     rw[List.getElem_append_left hj]at this
     exact this) (JR (by omega)) (hn _) (hd _)
   exact⟨_,rfl,_,_,hH,h⟩
end
end Go.Abs
namespace Go.Abs
theorem Hx {a b:UInt8} : a<b↔a.toNat<b.toNat:=UInt8.lt_iff_toNat_lt
theorem AU : ∀ a:aF,bytesLess a a=false
 | []=>rfl
 |x::a=>by
  show Go.Op.bytesLess (x::a) (x::a)=false
  have h:=AU a
  have h:Go.Op.bytesLess a a=false:=h
  simp[Go.Op.bytesLess,h]
theorem AV : ∀ a b:aF,bytesLess a b=true∨a=b∨bytesLess b a=true
 | [],[]=> .inr (.inl rfl)
 | [],y::b=> .inl rfl
 |x::a,[]=> .inr (.inr rfl)
 | x::a,y::b=>by
  show Go.Op.bytesLess (x::a) (y::b)=true∨_∨Go.Op.bytesLess (y::b) (x::a)=true
  have h:Go.Op.bytesLess a b=true∨a=b∨Go.Op.bytesLess b a=true:=AV a b
  simp only[Go.Op.bytesLess,Bool.or_eq_true,Bool.and_eq_true,decide_eq_true_eq,beq_iff_eq,List.cons.injEq]
  by_cases e:x=y
  ·subst e
   rcases h with h|h|h
   ·exact .inl (.inr ⟨rfl,h⟩)
   ·exact .inr (.inl ⟨rfl,h⟩)
   ·exact .inr (.inr (.inr ⟨rfl,h⟩))
  ·have:x.toNat≠y.toNat:=fun h=>e (UInt8.toNat_inj.1 h)
   rcases Nat.lt_or_gt_of_ne this with h|h
   ·exact .inl (.inl (Hx.2 h))
   ·exact .inr (.inr (.inl (Hx.2 h)))
theorem Hy : ∀ a b c:aF,bytesLess a b=true→bytesLess b c=true→bytesLess a c=true
 |a,b,[],h1,h2=>by cases b<;>cases h2
 |a,[],z::c,h1,h2=>by cases a<;>cases h1
 | [],y::b,z::c,h1,h2=>rfl
 | x::a,y::b,z::c,h1,h2=>by
  have h1:Go.Op.bytesLess (x::a) (y::b)=true:=h1
  have h2:Go.Op.bytesLess (y::b) (z::c)=true:=h2
  show Go.Op.bytesLess (x::a) (z::c)=true
  simp only[Go.Op.bytesLess,Bool.or_eq_true,Bool.and_eq_true,decide_eq_true_eq,beq_iff_eq]at h1 h2 ⊢
  rcases h1 with e1|⟨i1,e1⟩
  ·rcases h2 with e2 | ⟨i2,e2⟩
   ·exact .inl (Hx.2 (Nat.lt_trans (Hx.1 e1) (Hx.1 e2)))
   ·exact .inl (i2 ▸ e1)
  ·rcases h2 with e2 | ⟨i2,e2⟩
   ·exact .inl (i1 ▸ e2)
   ·exact .inr ⟨i1.trans i2,Hy a b c e1 e2⟩
def DF (l:List aF):Prop:=l.Pairwise fun a b=>bytesLess a b=true
theorem zJ : ∀ {a b:List aF},DF a→DF b→(∀ x,x∈a↔x∈b)→a=b
 | [],[],_,_,_=>rfl
 | [],y::b,_,_,h=>absurd ((h y).2 List.mem_cons_self) (by simp)
 |x::a,[],_,_,h=>absurd ((h x).1 List.mem_cons_self) (by simp)
 | x::a,y::b,h1,h2,h=>by
  obtain⟨g1,g2⟩:=List.pairwise_cons.1 h1
  obtain⟨g3,g4⟩:=List.pairwise_cons.1 h2
  have e:x=y:=by
   rcases List.mem_cons.1 ((h x).1 List.mem_cons_self)with e|m
   ·exact e
   ·rcases List.mem_cons.1 ((h y).2 List.mem_cons_self)with e | m'
    ·exact e.symm
    ·have:=Hy _ _ _ (g3 x m) (g1 y m');rw[AU]at this;cases this
  subst e
  rw[zJ g2 g4 fun z=>?_]
  constructor
  ·intro m
   rcases List.mem_cons.1 ((h z).1 (List.mem_cons_of_mem _ m))with e|m'
   ·subst e;have:=g1 z m;rw[AU]at this;cases this
   ·exact m'
  ·intro m
   rcases List.mem_cons.1 ((h z).2 (List.mem_cons_of_mem _ m))with e|m'
   ·subst e;have:=g3 z m;rw[AU]at this;cases this
   ·exact m'
theorem wS (out:List aF) : ∀ (l:List aF) (c:aF) (a:Bool),
 let q:=oz out l c a
 (q.2=false↔a=false∧∀ x∈l,x∈out)∧(q.2=true→((a=true∧q.1=c)∨(q.1∈l∧q.1∉out))∧(a=true→bytesLess c q.1=false)∧∀ x∈l,x∉out→bytesLess x q.1=false)
 | [],c,a=>by
  simp only[oz]
  refine⟨by simp,fun h=>⟨.inl ⟨h,by trivial⟩,fun _=>AU c,fun x m=>(by cases m)⟩⟩
 | s::l,c,a=>by
  simp only[oz]
  by_cases h1:fv out s=true
  ·have m:=(gJ _ _).1 h1
   simp only[h1,Bool.not_true,Bool.false_and,Bool.false_eq_true,if_false]
   obtain⟨k1,k2⟩:=wS out l c a
   refine⟨k1.trans ⟨fun h=>⟨h.1,fun x hx=>?_⟩,fun h=>⟨h.1,fun x hx=>h.2 x (List.mem_cons_of_mem _ hx)⟩⟩,fun h=>?_⟩
   ·rcases List.mem_cons.1 hx with rfl | hx
    ·exact m
    ·exact h.2 x hx
   ·obtain⟨g1,g2,g3⟩:=k2 h
    refine⟨g1.imp_right fun h=>⟨List.mem_cons_of_mem _ h.1,h.2⟩,g2,fun x hx hn=>?_⟩
    rcases List.mem_cons.1 hx with rfl|hx
    ·exact absurd m hn
    ·exact g3 x hx hn
  ·have m:s∉out:=fun m=>h1 ((gJ _ _).2 m)
   have rC:fv out s=false:=by simpa using h1
   by_cases h2:(!a ||bytesLess s c)=true
   ·simp only [rC,h2,Bool.not_false,Bool.and_self,if_true]
    obtain⟨k1,k2⟩:=wS out l s true
    refine⟨⟨fun h=>absurd (k1.1 h).1 (by simp),fun h=>absurd (h.2 s List.mem_cons_self) m⟩,fun h=>?_⟩
    obtain⟨g1,g2,g3⟩:=k2 h
    have g4:=g2 rfl
    refine⟨.inr ?_,fun ha=>?_,fun x hx hn=>?_⟩
    ·rcases g1 with ⟨_,e⟩ | g1
     ·rw[e];exact⟨List.mem_cons_self,m⟩
     ·exact⟨List.mem_cons_of_mem _ g1.1,g1.2⟩
    ·have h3:bytesLess s c=true:=by simpa [ha]using h2
     cases hh:bytesLess c (oz out l s true).1
     ·rfl
     ·have:=Hy _ _ _ h3 hh;rw[g4]at this;cases this
    ·rcases List.mem_cons.1 hx with rfl | hx
     ·exact g4
     ·exact g3 x hx hn
   ·have wx:(!a || bytesLess s c)=false:=by simpa using h2
    have ha:a=true:=by cases a<;>simp_all
    have h3:bytesLess s c=false:=by cases a<;>simp_all
    simp only[rC,wx,Bool.not_false,Bool.and_false,Bool.false_eq_true,if_false]
    obtain⟨k1,k2⟩:=wS out l c a
    refine⟨⟨fun h=>absurd (k1.1 h).1 (by simp[ha]),fun h=>absurd h.1 (by simp[ha])⟩,fun h=>?_⟩
    obtain⟨g1,g2,g3⟩:=k2 h
    refine⟨g1.imp_right fun h=>⟨List.mem_cons_of_mem _ h.1,h.2⟩,g2,fun x hx hn=>?_⟩
    rcases List.mem_cons.1 hx with rfl|hx
    ·cases hh:bytesLess x (oz out l c a).1
     ·rfl
     ·have g4:=g2 ha
      rcases AV x c with e|e|e
      ·rw[h3]at e;cases e
      ·subst e;rw[g4]at hh;cases hh
      ·have:=Hy _ _ _ e hh;rw[g4]at this;cases this
    ·exact g3 x hx hn
theorem zK (l:List aF) : ∀ (n:Nat) (out:List aF),DF out→(∀ x∈out,x∈l)→(∀ x∈out,∀ y∈l,y∉out→bytesLess x y=true)→
 DF (qP l n out)∧(∀ x∈qP l n out,x∈l)∧(∀ x∈out,x∈qP l n out)∧((∀ x∈l,x∈qP l n out)∨(qP l n out).length=out.length+n)
 | 0,out,h1,h2,h3=>⟨h1,h2,fun x m=>m, .inr rfl⟩
 | n+1,out,h1,h2,h3=>by
  simp only[qP,Wn]
  obtain⟨k1,k2⟩:=wS out l [] false
  cases hq:(oz out l [] false).2
  ·simp only [Bool.false_eq_true,if_false]
   obtain⟨g1,g2,g3,g4⟩:=zK l n out h1 h2 h3
   exact⟨g1,g2,g3, .inl fun x m=>g3 x ((k1.1 hq).2 x m)⟩
  ·simp only [if_true]
   obtain⟨g1,_,g3⟩:=k2 hq
   have g1:(oz out l [] false).1∈l∧(oz out l [] false).1∉out:=by
    rcases g1 with ⟨h,_⟩|g1
    ·cases h
    ·exact g1
   generalize (oz out l [] false).1=c at g1 g3
   obtain⟨r1,r2,r3,r4⟩:=zK l n (out++ [c])
    (by
     refine List.pairwise_append.2 ⟨h1,by simp,fun x hx y hy=>?_⟩
     have:y=c:=by simpa using hy
     subst this
     exact h3 x hx y g1.1 g1.2)
    (fun x hx=>by
     rcases List.mem_append.1 hx with hx|hx
     ·exact h2 x hx
     ·have:x=c:=by simpa using hx
      subst this;exact g1.1)
    (fun x hx y hy hn=>by
     have hyo:y∉out:=fun m=>hn (List.mem_append_left _ m)
     have hyc:y≠c:=fun e=>hn (List.mem_append_right _ (by simp[e]))
     rcases List.mem_append.1 hx with hx|hx
     ·exact h3 x hx y hy hyo
     ·have:x=c:=by simpa using hx
      subst this
      rcases AV x y with h|h|h
      ·exact h
      ·exact absurd h.symm hyc
      ·rw[g3 y hy hyo]at h;cases h)
   refine⟨r1,r2,fun x m=>r3 x (List.mem_append_left _ m),r4.imp_right fun h=>?_⟩
   rw[h];simp;omega
theorem yM : ∀ (a l:List aF),a.Nodup→(∀ x∈a,x∈l)→a.length≤l.length
 | [],l,_,_=>Nat.zero_le _
 |x::a,l,h,hm=>by
  obtain⟨h1,h2⟩:=List.nodup_cons.1 h
  have m:=hm x List.mem_cons_self
  have:=yM a (l.erase x) h2 fun y hy=>(List.mem_erase_of_ne (fun e=>h1 (by rw[← e];exact hy))).2 (hm y (List.mem_cons_of_mem _ hy))
  rw[List.length_erase_of_mem m]at this
  have:0<l.length:=List.length_pos_of_mem m
  simp only[List.length_cons];omega
theorem wT {l:List aF} (h:DF l):l.Nodup:=h.imp fun {a b} h e=>by subst e;rw[AU]at h;cases h
theorem lA (l:List aF):DF (lf l)∧∀ x,x∈lf l↔x∈l:=by
 obtain⟨h1,h2,h3,h4⟩:=zK l l.length [] List.Pairwise.nil (fun x m=>(by cases m)) (fun x m=>(by cases m))
 refine⟨h1,fun x=>⟨h2 x,fun m=>?_⟩⟩
 rcases h4 with h4|h4
 ·exact h4 x m
 ·refine Classical.byContradiction fun hn=> ?_
  have:=yM (x::qP l l.length []) l (List.nodup_cons.2 ⟨hn,wT h1⟩) fun y hy=>by
   rcases List.mem_cons.1 hy with rfl|hy
   ·exact m
   ·exact h2 y hy
  simp only[List.length_cons,h4,List.length_nil]at this
  omega
theorem Po (zs:List aF) (hs:zs.Pairwise fun a b=>bytesLess b a=false) : ∀ m,m≤zs.length→
 DF (Lib.compactUpTo zs.toArray m)∧(∀ x,x∈Lib.compactUpTo zs.toArray m↔x∈zs.take m):=by
 intro m
 induction m with
 |zero=>intro _;exact⟨by simp[Lib.compactUpTo,DF],fun x=>by simp[Lib.compactUpTo]⟩
 | succ m ih=>
  intro hm
  obtain⟨h1,h2⟩:=ih (by omega)
  have hz:zs[m]? = some zs[m]:=List.getElem?_eq_getElem (by omega)
  have e1:zs.toArray[m]! = zs[m]:=by simp[hm,Nat.lt_of_succ_le hm]
  have et:zs.take (m+1)=zs.take m++ [zs[m]]:=by rw[List.take_add_one,hz];rfl
  rw[Lib.compactUpTo_succ,e1,et]
  by_cases hk:Lib.keeps zs.toArray m=true
  ·rw [if_pos hk]
   refine⟨List.pairwise_append.2 ⟨h1,by simp,fun x hx y hy=>?_⟩,fun x=>by rw[List.mem_append,List.mem_append,h2]⟩
   have hy:y=zs[m]:=by simpa using hy
   subst hy
   have hx:=(h2 x).1 hx
   simp only[Lib.keeps,decide_eq_true_eq]at hk
   rcases hk with rfl|hk
   ·simp at hx
   ·have ow:m - 1<zs.length:=by omega
    have e2:zs.toArray[m - 1]! = zs[m - 1]:=by simp[ow]
    rw[e1,e2]at hk
    have h0:0<m:=by
     cases m with
     |zero=>simp at hx
     |succ m=>omega
    have hle : ∀ i j (hi:i<zs.length) (hj:j<zs.length),i<j→bytesLess zs[j] zs[i] = false:=fun i j hi hj hij=>List.pairwise_iff_getElem.1 hs i j hi hj hij
    have g1:bytesLess zs[m] zs[m - 1] = false:=hle (m - 1) m ow (by omega) (by omega)
    have g2:bytesLess zs[m - 1] zs[m] = true:=by
     rcases AV zs[m - 1] zs[m]with h|h|h
     ·exact h
     ·exact absurd h.symm hk
     ·rw[g1]at h;cases h
    obtain⟨i,hi,rfl⟩:=List.mem_iff_getElem.1 hx
    rw[List.length_take]at hi
    rw[List.getElem_take]
    by_cases ph:i=m - 1
    ·subst ph;exact g2
    ·have g3:=hle i (m - 1) (by omega) ow (by omega)
     rcases AV zs[i] zs[m - 1]with h|h|h
     ·exact Hy _ _ _ h g2
     ·rw[h];exact g2
     ·rw[g3]at h;cases h
  ·rw [if_neg hk]
   simp only[List.append_nil]
   refine⟨h1,fun x=>?_⟩
   rw[h2]
   simp only[Lib.keeps,decide_eq_true_eq,not_or,ne_eq,Decidable.not_not]at hk
   obtain⟨k1,k2⟩:=hk
   have ow:m - 1<zs.length:=by omega
   have e2:zs.toArray[m - 1]! = zs[m - 1]:=by simp[ow]
   rw[e1,e2]at k2
   simp only[List.mem_append,List.mem_singleton]
   constructor
   ·exact .inl
   ·rintro(h | rfl)
    ·exact h
    ·rw [k2]
     exact List.mem_iff_getElem.2 ⟨m - 1,by rw[List.length_take];omega,by rw[List.getElem_take]⟩
theorem JS (l:List aF):(nC l).Pairwise fun a b=>bytesLess b a=false:=by
 have h:=List.pairwise_mergeSort (le:=fun x y:aF=>decide (x≤y)) (fun a b c h1 h2=>?_) (fun a b=>?_) l
 ·refine h.imp fun {a b} h=> ?_
  rw[decide_eq_true_eq]at h
  show Go.Op.bytesLess b a=false
  rw[Go.Proofs.bytesLess_eq]
  simpa using h
 ·rw [decide_eq_true_eq]at h1 h2 ⊢
  exact List.le_trans h1 h2
 ·have:=List.le_total a b
  simpa using this
theorem DG (l:List aF):Lib.compact (nC l)=lf l:=by
 obtain⟨h1,h2⟩:=Po (nC l) (JS l) (nC l).length (Nat.le_refl _)
 obtain⟨h3,h4⟩:=lA l
 refine zJ h1 h3 fun x=>?_
 rw[h4]
 refine(h2 x).trans ?_
 rw[List.take_length]
 exact(List.mergeSort_perm _ _).mem_iff
set_option maxRecDepth 8000
open Go.Proofs
def nc:List Sm→List aF
 | []=> []
 |v::l=>if v.kind==4 then v.proc::nc l else nc l
theorem Fi : ∀ l:List Sm,(nc l).length≤l.length
 | []=>Nat.le_refl _
 |v::l=>by
  simp only[nc]
  have:=Fi l
  split<;>simp<;>omega
def Pc.calls (f:Pc):List aF:=lf (nc (Sm.bZ f.body))
theorem DH {name:aF} : ∀ {l:List Pc} {k:Nat} {f:Pc},gQ name l=some f→∃ j,l[j]? = some f∧lY (fun f:Pc=>f.name==name) (k:Int) l=((k+j:Nat):Int)
 | g::l,k,f,h=>by
  simp only[gQ]at h
  cases e:(g.name==name)
  ·rw [e]at h
   simp only[Bool.false_eq_true,if_false]at h
   obtain⟨j,h1,h2⟩:=DH (k:=k+1) h
   refine⟨j+1,by simpa using h1, ?_⟩
   simp only[lY,e,Bool.false_eq_true,if_false]
   rw[show((k:Int)+1)=((k+1:Nat):Int)from rfl,h2]
   congr 1;omega
  ·rw [e]at h
   simp only[if_true,Option.some.injEq]at h
   exact⟨0,by simpa using h,by simp[lY,e]⟩
theorem ady {p:Pg} (h:p.jv) {name:aF} {f:Pc} (hf:p.find name=some f) (s:St):aE Tryz.prog vY [.dN (ga p) 0, .str name] s (.slice .shared 1 (f.calls.map encStr)) s:=by
 refine aE.pure ?_ (by simp[D.bK,D.ok,we]) (by simp only[D.ok,Tag.ok,fe];rfl) s
 obtain⟨sT,sC,sB⟩:=h.procs
 obtain⟨j,hj,rB⟩:=DH (k:=0) hf
 have rB:p.at name=((j:Nat):Int):=by unfold Pg.at;simpa using rB
 have sF:=fun s=>Hq (p:=p) (by omega) name s
 rw[rB]at sF
 obtain⟨it,pZ,DA⟩:=Zj hj (by omega)
 have ahe:it.length≤900000:=by
  have e:=congrArg List.length pZ
  obtain⟨a,b,e',_,_,e3,e4⟩:=(oT p).2 j f hj
  have e5:=qy p
  have e6:=congrArg List.length e3
  rw[e4]at e5
  simp only[List.length_map,List.length_append]at e e5 e6
  omega
 unfold S0
 obtain⟨fn,Ch,Fh⟩:=Ha
 refine aE.intro ⟨fn,Ch,Fh⟩ (Nat.le_of_ble_eq_true rfl) fun B hB=>?_
 generalize hQ:rf (⟨[],[]⟩:St).ah.length (⟨[],[]⟩:St).ay.length _ _ (⟨[],[]⟩:St)=Q
 have⟨hD,gA,gB,gC⟩:=cd
 refine Sem.oh ?_
 repeat' (first
 |simp only[go_sem,hD,gA,gB,gC]
 |(with_reducible refine aD hQ ?_;exact bx))
 refine Sem.oh ?_
 repeat' (first
 |simp only[go_sem,hD,gA,gB,gC]
 |(with_reducible refine aD hQ ?_;exact bx))
 refine Sem.oh ?_
 repeat' (first
 |simp only[go_sem,hD,gA,gB,gC]
 |(with_reducible refine CU (sF _) ?_)
 |(with_reducible refine CU (DA _) ?_)
 |(with_reducible refine aD hQ ?_;exact bx))
 refine bl.s7 5 1 rfl ?_
 simp only[go_sem,hD,gA,gB,gC]
 obtain⟨R,hR⟩ : ∃ R,R=nc (Sm.bZ f.body):=⟨_,rfl⟩
 have hRl:R.length≤900000:=by rw[hR, ← pZ];have:=Fi (it.map Im.s);rw[List.length_map]at this;omega
 refine fj 0 1 (bl.ind (ι:=List Im×Nat×List aF×Nat) (fun i=>it.drop i.2.1=i.1∧i.2.2.1++nc (i.1.map Im.s)=R∧i.2.2.2=i.2.2.1.length) (fun i=>i.1.length)
  (fun i=> [(5, .slice (.tok 0) 1 (i.2.2.1.map encStr)),(12, .slice .shared 17 (it.map dM)),(13, .int .i64 (it.length:Int)),(14, .int .i64 (i.2.1:Int))]) (fun i=>⟨[],[some i.2.2.2]⟩) ?_ (it,0,[],0) ⟨rfl,by rw[hR,pZ];rfl,rfl⟩)
 rintro⟨rest,k,out,n⟩ ⟨h1,h2,h3⟩ IH
 dsimp only at h1 h2 h3
 subst h3
 have jS:out.length≤900000:=by have:=congrArg List.length h2;rw[List.length_append]at this;omega
 cases rest with
 | cons a rest=>
  obtain⟨gA,g2,hD,g4⟩:=drop_cons h1
  have cH:k<4611686018427387904:=by omega
  have gB:(out.length+1)*17≤bp:=by unfold bp;omega
  simp only[List.map_cons,nc]at h2
  rcases Bool.eq_false_or_eq_true (a.s.kind==4)with c1|c1
  ·simp only [c1,if_true]at h2
   repeat' (first
 |simp only[go_sem,hD,gA,gB,gC,c1]
 | (with_reducible refine aD hQ ?_;exact bx))
   refine dW 0 1 ?_ ?_ (IH (rest,k+1,out++ [a.s.proc],out.length+1) ⟨g2,by rw[← h2];simp,by simp⟩ (Nat.lt_succ_self _))
   ·(simp only[go_sem,hD,gA,gB,gC,aH cH,List.map_append,List.map_cons,List.map_nil,encStr];try exact bO)
   ·(simp only[go_sem,hD,gA,gB,gC,aH cH,List.map_append,List.map_cons,List.map_nil,encStr];try exact bO)
  ·simp only [c1,Bool.false_eq_true,if_false]at h2
   repeat' (first
 |simp only[go_sem,hD,gA,gB,gC,c1]
 | (with_reducible refine aD hQ ?_;exact bx))
   refine dW 0 1 ?_ ?_ (IH (rest,k+1,out,_) ⟨g2,h2,rfl⟩ (Nat.lt_succ_self _))
   ·(simp only[go_sem,hD,gA,gB,gC,aH cH];try exact bO)
   ·(simp only[go_sem,hD,gA,gB,gC,aH cH];try exact bO)
 |nil=>
  have hD:=drop_nil h1
  simp only[List.map_nil,nc,List.append_nil]at h2
  subst h2
  have Hw:(nC out).length=out.length:=List.length_mergeSort out
  repeat' (first
 |simp only[go_sem,hD,gA,gB,gC]
 |(with_reducible refine aD hQ ?_;exact bx))
  refine Sem.seq (Sem.sort (k:=5) (t:=0) (l:=out) hB (by decide) (by decide) (by decide) rfl rfl (by omega) ?_)
  show Sem _ _ _ _ _ _ _
  refine Sem.seq (Sem.compact (k:=5) (t:=0) (l:=nC out) hB (by decide) rfl (by rw[Hw];rfl) (by rw[Hw];omega) ?_)
  rw[DG]
  have atU:f.calls=lf out:=by unfold Pc.calls;rw[hR]
  rw[atU]at hQ
  refine jt (ac:= .ret) (Q:=Q) (tm:= [(32, .slice (.tok 0) 1 ((lf out).map encStr)),(4, .slice (.tok 0) 1 ((lf out).map encStr))]) (s:=⟨[],[some (lf out).length]⟩) ?_
  repeat' (first
 |simp only[go_sem,hD,gA,gB,gC]
 |(with_reducible refine aD hQ ?_;exact bx))
theorem JT {name:aF} : ∀ {l:List Pc},name∈l.map (·.name)→∃ f,gQ name l=some f
 | f::l,h=>by
  simp only[gQ]
  cases e:(f.name==name)
  ·simp only [Bool.false_eq_true,if_false]
   refine JT ?_
   rcases List.mem_cons.1 h with h|h
   ·rw[h]at e;simp at e
   ·exact h
  ·exact⟨f,rfl⟩
theorem JU {p:Pg} {f:Pc} {procs:List aF} : ∀ {l:List Sm},zI p f procs l=none→∀ v∈l,v.known p f procs=true
 | v::l,h,w,m=>by
  simp only[zI]at h
  split at h
  ·rename_i e
   rcases List.mem_cons.1 m with rfl|m
   ·exact e
   ·exact JU h w m
  ·cases h
theorem JV {p:Pg} {procs:List aF} : ∀ {l:List Pc},((tC p procs l).1==0)=true→∀ f∈l,eZ (p.globals++f.own)=false∧∀ v∈Sm.bZ f.body,v.known p f procs=true
 | g::l,h,f,m=>by
  simp only[tC]at h
  split at h
  ·cases h
  ·rename_i e
   split at h
   ·cases h
   ·rename_i e2
    rcases List.mem_cons.1 m with rfl|m
    ·exact⟨by simpa using e,JU e2⟩
    ·exact JV h f m
theorem F4 {p:Pg} (h:(p.scope.1==0)=true):eZ p.globals=false∧eZ p.pn=false∧p.nB=false∧∀ f∈p.procs,eZ (p.globals++f.own)=false∧∀ v∈Sm.bZ f.body,v.known p f p.pn=true:=by
 unfold Pg.scope at h
 split at h
 ·split at h
  ·cases h
  ·rename_i e
   simp only[Bool.or_eq_true,not_or,Bool.not_eq_true]at e
   exact⟨e.1,e.2.1,e.2.2,JV h⟩
 ·cases h
theorem zL {x:aF} : ∀ {l:List Sm},x∈nc l↔∃ v∈l,v.kind=4∧v.proc=x
 | []=>by simp[nc]
 | v::l=>by
  simp only[nc]
  cases e:(v.kind==4)
  ·have:v.kind≠4:=by simpa using e
   simp[this,zL (l:=l)]
  ·have:v.kind=4:=by simpa using e
   simp only[if_true,List.mem_cons,zL (l:=l),exists_eq_or_imp,this,true_and]
   constructor
   ·rintro(h | h)
    ·exact .inl h.symm
    ·exact .inr h
   ·rintro(h | h)
    ·exact .inl h.symm
    ·exact .inr h
theorem DI {f:Pc} {x:aF} : x∈f.calls↔∃ v∈Sm.bZ f.body,v.kind=4∧v.proc=x:=by
 unfold Pc.calls;rw[(lA _).2,zL]
theorem zM {p:Pg} (h:(p.scope.1==0)=true) {f:Pc} (hf:f∈p.procs) {x:aF} (m:x∈f.calls) : ∃ g,p.find x=some g:=by
 obtain⟨v,hv,h4,rfl⟩:=DI.1 m
 have hk:=((F4 h).2.2.2 f hf).2 v hv
 simp only[Sm.known,h4,Bool.and_eq_true,Bool.or_eq_true]at hk
 rcases hk.2 with h|⟨_,h⟩
 ·simp at h
 ·exact JT ((gJ _ _).1 h)
def pz (p:Pg) (x:aF):List aF:=match p.find x with|some f=>f.calls|none=> []
def uC (out:List aF):List aF→List aF
 | []=>out
 |x::l=>uC (u6 out x) l
def nX (p:Pg):Nat→Nat→List aF→List aF
 | 0,_,out=>out
 |n+1,i,out=>match out[i]? with
  |some x=>nX p n (i+1) (uC out (pz p x))
  |none=>out
def Pg.work (p:Pg) (name:aF):List aF:=nX p (p.procs.length+1) 0 [name]
def Good (p:Pg) (out:List aF):Prop:=out.Nodup∧∀ x∈out,∃ f,p.find x=some f
theorem Good.len {p:Pg} {out:List aF} (h:Good p out):out.length≤p.procs.length:=by
 have:=yM out p.pn h.1 fun x m=>by
  obtain⟨f,hf⟩:=h.2 x m
  obtain⟨h1,h2⟩:=sj hf
  rw[← h2];exact List.mem_map_of_mem h1
 simpa[Pg.pn]using this
theorem Good.spk {p:Pg} {out:List aF} (h:Good p out) {x:aF} (hx : ∃ f,p.find x=some f):Good p (u6 out x):=by
 unfold u6
 split
 ·exact h
 ·rename_i e
  have:x∉out:=fun m=>e ((gJ _ _).2 m)
  refine⟨List.nodup_append.2 ⟨h.1,by simp,fun a ha b hb e'=>?_⟩,fun y hy=>?_⟩
  ·have hbx:b=x:=by simpa using hb
   rw[e',hbx]at ha;exact this ha
  ·rcases List.mem_append.1 hy with hy | hy
   ·exact h.2 y hy
   ·have:y=x:=by simpa using hy
    subst this;exact hx
theorem Good.add {p:Pg} : ∀ {l out:List aF},Good p out→(∀ x∈l,∃ f,p.find x=some f)→Good p (uC out l)
 | [],out,h,_=>h
 |x::l,out,h,hx=>Good.add (l:=l) (out:=u6 out x) (Good.spk h (hx x List.mem_cons_self)) fun y m=>hx y (List.mem_cons_of_mem _ m)
def tgB:Bool→Tag
 |true=> .tok 0
 |false=> .full
def tkB:Bool→Nat→List (Option Nat)
 |true,n=> [some n]
 |false,_=> []
def BH:AI→AI
 | .op d g (.dg z k n ps)=> .op d g (.w9 z k n ps)
 |a=>a
section
variable {P:Program}
theorem Pp {nt:Nat} {ops:Array Oper} {i:Nat} {o:Oper} {ai:AI} (hi:ops[i]? = some o) (hc:cI P nt ops o=some ai)
 {M:Map} {s:St} {w:World} {tm:Tm} {act:Act} (r:Rel M s w) (kD:Laid M s w) (ht:nn M s tm act.tmps) {K':Tm→St→Prop} (h:jI P [BH ai] K' tm s)
 {K:Act→World→Prop} {Q:Exit→Act→World→Prop}
 (hK : ∀ d v s1 w1 M1,K' (tm.put ai.dst d) s1→Ext M s w M1 s1 w1→Rel M1 s1 w1→RD M1 s1 d v→K (act.put o.dst v) w1):wpOp P ops Q i K act w:=by
 by_cases hb : ∃ d g z k n ps,ai = .op d g (.dg z k n ps)
 ·obtain⟨d0,g0,z,k,n,ps,rfl⟩:=hb
  obtain⟨g,hg,_,hb⟩:=Db hc
  rw[vr hb]at hK
  simp only[wpOp,hi]
  have skip:K' (tm.put o.dst (.tuple [])) s→K (act.put o.dst Go.undef) w:=fun hk=>hK _ _ _ _ _ hk (Ext.refl M s w) r .undef
  have hd:=vr hb
  simp only[AI.dst]at hd
  subst hd
  have pj:Gu P o=some (.dg z k n ps)∧g0=g:=by
   unfold uN at hb
   split at hb
   ·split at hb
    ·obtain⟨xs,_,h⟩:=map_some hb;cases h
    ·cases hb
   ·obtain⟨xs,_,h⟩:=map_some hb;cases h
   ·split at hb
    ·cases hb
    ·split at hb
     ·rename_i pj
      simp only[Option.some.injEq,AI.op.injEq,true_and]at hb
      obtain⟨h1,h2⟩:=hb
      split at h2
      ·cases h2
      ·cases h2;exact⟨pj,h1.symm⟩
     ·rename_i ao fm pj
      simp only[Option.some.injEq,AI.op.injEq,true_and]at hb
      obtain⟨h1,h2⟩:=hb
      subst h2
      exact⟨pj,h1.symm⟩
     ·cases hb
  obtain⟨pj,rfl⟩:=pj
  simp only[BH,jI]at h
  rcases k9 hg ht h with ⟨hw,hA⟩|⟨hw,hB⟩
  ·simp only [hw,if_true]
   left
   split at hA
   ·rename_i d s' oQ
    obtain⟨v,w',M',dU,r',hv,e'⟩:=Bi pj r ht oQ
    unfold Oper.wp
    rcases dU with dU|⟨dU,rfl⟩
    ·rw [dU,Oper.upon_value]
     exact hK _ _ _ _ _ hA e' r' hv
    ·rw [dU,Oper.upon_skip]
     exact hK _ _ _ _ _ hA e' r' hv
   ·exact hA.elim
  ·simp only [hw]
   exact skip hB
 ·have hs:BH ai=ai:=by
   unfold BH
   split
   ·rename_i d g z k n ps;exact absurd ⟨d,g,z,k,n,ps,rfl⟩ hb
   ·rfl
  rw[hs]at h
  exact zj hi hc r kD ht h hK
theorem adz {a:AI} {r:List AI} {K:Tm→St→Prop} {tm:Tm} {s:St} (h:jI P (a::r) K tm s):jI P [a] (jI P r K) tm s:=by
 cases a<;>exact h
theorem JW {B:gN} {nt:Nat} {ops:Array Oper} {Q:Exit→Tm→St→Prop} : ∀ (l:List Nat) (ol:List Oper) (is:List AI),l.map (ops[·]?)=ol.map some→sL P nt ops ol=some is→
 ∀ (tm:Tm) (s:St) (act:Act) (w:World),jI P (is.map BH) (Q .normal) tm s→Holds B nt tm s act w→wpOps P ops (q9 B nt Q) l act w
 | [],[],is,_,hc,tm,s,act,w,h,hh=>by cases hc;exact⟨tm,s,h,hh⟩
 | [],_::_,_,hl,_,_,_,_,_,_,_=>by simp at hl
 |_::_,[],_,hl,_,_,_,_,_,_,_=>by simp at hl
 | i::l,o::ol,is,hl,hc,tm,s,act,w,h,hh=>by
  simp only[List.map_cons,List.cons.injEq]at hl
  obtain⟨hi,hl⟩:=hl
  unfold sL at hc
  split at hc
  ·rename_i ai UQ h1 h2
   cases hc
   obtain⟨M,e,r,ht,hn,hd⟩:=hh
   have sf:=Ak h1
   have hdd:=vt h1
   rw[List.map_cons]at h
   have key:=Pp (K:=fun act w=>wpOps P ops (q9 B nt Q) l act w) (Q:=q9 B nt Q) hi h1 r (B.laid.ext e) ht (adz h) (fun d v s1 w1 M1 hk e1 r1 hv=>
    JW (Q:=Q) l ol UQ hl h2 _ _ _ _ hk (hdd ▸ Holds.put e ht hn hd sf e1 r1 hv))
   simpa only[wpOps,wpOp,hi]using key
  ·cases hc
theorem Sem.swap {B:gN} {nt:Nat} {is:List AI} {Q:Exit→Tm→St→Prop} {tm:Tm} {s:St} (h:jJ P B nt (.run (is.map BH)) Q tm s):Sem P B nt (.run is) Q tm s:=by
 intro c hc act w hh
 obtain⟨id,ops,rfl,hi⟩:=mJ hc
 refine wp_region ?_
 exact JW _ _ is (C8 ops) hi tm s act w (pD h) hh
end
end Go.Abs
namespace Go.Abs
set_option maxRecDepth 8000
open Go.Proofs
theorem Ts {l:List aF} (h:l.Nodup):nC l=lf l:=by
 refine zJ ?_ (lA l).1 fun x=>?_
 ·have h1:=JS l
  have h2:(nC l).Nodup:=(List.mergeSort_perm l _).nodup_iff.2 h
  refine(List.pairwise_and_iff.2 ⟨h1,h2⟩).imp fun {a b} hab=>?_
  rcases AV a b with e|e|e
  ·exact e
  ·exact absurd e hab.2
  ·rw[hab.1]at e;cases e
 ·rw[(lA l).2];exact(List.mergeSort_perm l _).mem_iff
theorem DJ {p:Pg} (mO:(p.scope.1==0)=true) : ∀ (n i:Nat) (out:List aF),Good p out→Good p (nX p n i out)
 | 0,i,out,h=>h
 | n+1,i,out,h=>by
  simp only[nX]
  split
  ·rename_i x hx
   obtain⟨g,hg⟩:=h.2 x (List.mem_of_getElem? hx)
   refine DJ mO n _ _ (h.add fun y m=>?_)
   unfold pz at m
   rw[hg]at m
   exact zM mO (sj hg).1 m
  ·exact h
theorem BI {p:Pg} {name:aF} {f:Pc} (hf:p.find name=some f):Good p [name]:=
 ⟨by simp,fun x m=>by
  have:x=name:=by simpa using m
  subst this;exact⟨f,hf⟩⟩
theorem adA {p:Pg} (h:p.jv) (mO:(p.scope.1==0)=true) {name:aF} {f:Pc} (hf:p.find name=some f) (s:St):aE Tryz.prog zv [.dN (ga p) 0, .str name] s (.slice .shared 1 ((lf (p.work name)).map encStr)) s:=by
 refine aE.pure ?_ (by simp[D.bK,D.ok,we]) (by simp only[D.ok,Tag.ok,fe];rfl) s
 obtain⟨sT,sC,sB⟩:=h.procs
 obtain⟨R,hR⟩ : ∃ R,p.work name=R:=⟨_,rfl⟩
 have hgR:Good p R:=hR ▸ DJ mO _ _ _ (BI hf)
 rw[hR, ← Ts hgR.1]
 unfold Pg.work at hR
 have hg0:Good p [name]:=BI hf
 have hRl:=hgR.len
 unfold S0
 obtain⟨fn,Ch,Fh⟩:=KN
 refine aE.intro ⟨fn,Ch,Fh⟩ (Nat.le_of_ble_eq_true rfl) fun B hB=>?_
 generalize hQ:rf (⟨[],[]⟩:St).ah.length (⟨[],[]⟩:St).ay.length _ _ (⟨[],[]⟩:St)=Q
 have⟨hD,gA,gB,gC⟩:=cd
 refine Sem.oh ?_
 repeat' (first
 |simp only[go_sem,hD,gA,gB,gC]
 |(with_reducible first|refine bg fun hc=>?_|refine bh fun hc=>?_|refine bj (fun hc=>?_) fun hc=>?_)<;>(try simp only[hc,bs,↓reduceIte]at h)<;>try simp only[hc]
 |(with_reducible refine aD hQ ?_;exact fM)
 |(cases h;done))
 refine Sem.seq (Sem.swap ?_)
 simp only[List.map_cons,List.map_nil,BH]
 repeat' (first
 |simp only[go_sem,hD,gA,gB,gC]
 |(with_reducible first|refine bg fun hc=>?_|refine bh fun hc=>?_|refine bj (fun hc=>?_) fun hc=>?_)<;>(try simp only[hc,bs,↓reduceIte]at h)<;>try simp only[hc]
 |(with_reducible refine aD hQ ?_;exact fM)
 |(cases h;done))
 refine Sem.oh ?_
 repeat' (first
 |simp only[go_sem,hD,gA,gB,gC]
 |(with_reducible first|refine bg fun hc=>?_|refine bh fun hc=>?_|refine bj (fun hc=>?_) fun hc=>?_)<;>(try simp only[hc,bs,↓reduceIte]at h)<;>try simp only[hc]
 |(with_reducible refine aD hQ ?_;exact fM)
 |(cases h;done))
 refine fj 0 1 (bl.ind (ι:=Nat×Nat×List aF×Nat) (fun i=>nX p i.1 i.2.1 i.2.2.1=R∧Good p i.2.2.1∧i.1+i.2.1=p.procs.length+1∧i.2.2.2=i.2.2.1.length) (fun i=>i.1)
  (fun i=> [(0, .dN (ga p) 0),(5, .slice (.tok 0) 1 (i.2.2.1.map encStr)),(6, .int .i64 (i.2.1:Int))]) (fun i=>⟨[],[some i.2.2.2]⟩) ?_ (p.procs.length+1,0,[name],1) ⟨hR,hg0,rfl,rfl⟩)
 rintro⟨n,i,out,no⟩ ⟨h1,h2,h3,h4⟩ IH
 dsimp only at h1 h2 h3 h4
 subst h4
 have jS:=h2.len
 cases hx:out[i]? with
 | none=>
  have hD:decide ((i:Int)<(out.length:Int))=false:=by have:=List.getElem?_eq_none_iff.1 hx;simp;omega
  have:R=out:=by
   cases n with
   |zero=>simpa[nX]using h1.symm
   |succ n=>simp only[nX,hx]at h1;exact h1.symm
  subst this
  repeat' (first
 |simp only[go_sem,hD,gA,gB,gC]
 |(with_reducible first|refine bg fun hc=>?_|refine bh fun hc=>?_|refine bj (fun hc=>?_) fun hc=>?_)<;>(try simp only[hc,bs,↓reduceIte]at h)<;>try simp only[hc]
 |(with_reducible refine aD hQ ?_;exact fM)
 |(cases h;done))
  refine Sem.seq (Sem.sort (k:=5) (t:=0) (l:=R) hB (by decide) (by decide) (by decide) rfl rfl (by omega) ?_)
  refine jt (ac:=agP) (Q:=Q) (tm:= [(5, .slice (.tok 0) 1 ((nC R).map encStr))]) (s:=⟨[],[some R.length]⟩) ?_
  repeat' (first
 |simp only[go_sem,hD,gA,gB,gC]
 |(with_reducible first|refine bg fun hc=>?_|refine bh fun hc=>?_|refine bj (fun hc=>?_) fun hc=>?_)<;>(try simp only[hc,bs,↓reduceIte]at h)<;>try simp only[hc]
 |(with_reducible refine aD hQ ?_;exact fM)
 |(cases h;done))
 |some x=>
  have sw:=(List.getElem?_eq_some_iff.1 hx).1
  have hD:decide ((i:Int)<(out.length:Int))=true:=by simp;omega
  have ph:i<4611686018427387904:=by omega
  cases n with
  |zero=>omega
  |succ n=>
  simp only[nX,hx]at h1
  obtain⟨g,HA⟩:=h2.2 x (List.mem_of_getElem? hx)
  have Fj:=(sj HA).1
  have hca:=fun s=>ady h HA s
  have hcn:pz p x=g.calls:=by unfold pz;rw[HA]
  rw[hcn]at h1
  have hth : ∀ y∈g.calls,∃ f,p.find y=some f:=fun y m=>zM mO Fj m
  have aB0:g.calls.length≤p.procs.length:=Good.len ⟨wT (lA _).1,hth⟩
  obtain⟨W,hW⟩ : ∃ W,uC out g.calls=W:=⟨_,rfl⟩
  rw[hW]at h1
  repeat' (first
 |simp only[go_sem,hD,gA,gB,gC,hx]
 |(with_reducible refine CU (hca _) ?_)
 |(with_reducible first|refine bg fun hc=>?_|refine bh fun hc=>?_|refine bj (fun hc=>?_) fun hc=>?_)<;>(try simp only[hc,bs,↓reduceIte]at h)<;>try simp only[hc]
 |(with_reducible refine aD hQ ?_;(try cases h);simp only[aT,aV,bD,bE,go_sem,hD,gA,gB,gC,hx];try exact bX)
 | (cases h;done))
  refine fj 0 1 (bl.ind (ι:=List aF×Nat×List aF×Nat) (fun j=>g.calls.drop j.2.1=j.1∧uC j.2.2.1 j.1=W∧Good p j.2.2.1∧j.2.2.2=j.2.2.1.length) (fun j=>j.1.length)
   (fun j=> [(0, .dN (ga p) 0),(5, .slice (.tok 0) 1 (j.2.2.1.map encStr)),(6, .int .i64 (i:Int)),(22, .slice .shared 1 (g.calls.map encStr)),(23, .int .i64 (g.calls.length:Int)),(24, .int .i64 (j.2.1:Int))]) (fun j=>⟨[],[some j.2.2.2]⟩) ?_ (g.calls,0,out,out.length) ⟨rfl,hW,h2,rfl⟩)
  clear hW
  rintro⟨rest,k,dd,n'⟩ ⟨j1,j2,j3,j4⟩ IH'
  dsimp only at j1 j2 j3 j4
  subst j4
  have aB1:=j3.len
  cases rest with
  |nil=>
   have ahn:=drop_nil j1
   simp only[uC]at j2
   subst j2
   repeat' (first
 |simp only[go_sem,hD,gA,gB,gC,ahn]
 |(with_reducible first|refine bg fun hc=>?_|refine bh fun hc=>?_|refine bj (fun hc=>?_) fun hc=>?_)<;>(try simp only[hc,bs,↓reduceIte]at h)<;>try simp only[hc]
 |(with_reducible refine aD hQ ?_;(try cases h);simp only[aT,aV,bD,bE,go_sem,hD,gA,gB,gC,ahn];try exact bX)
 | (cases h;done))
   refine dW 0 1 ?_ ?_ (IH (n,i+1,dd,dd.length) ⟨h1,j3,by dsimp only;omega,rfl⟩ (Nat.lt_succ_self _))
   ·(simp only[go_sem,hD,gA,gB,gC,aH ph];try exact bO)
   ·(simp only[go_sem,hD,gA,gB,gC,aH ph];try exact bO)
  | cons y rest=>
   obtain⟨qB,P4,AS,jg4⟩:=drop_cons j1
   have oU:k<4611686018427387904:=by omega
   have gB:(dd.length+1)*17≤bp:=by unfold bp;omega
   have JX:=fun g s=>km (l:=dd) (by omega) y g s
   have hy:=hth y (List.mem_of_getElem? qB)
   have Ap:=j3.spk hy
   simp only[uC]at j2
   rcases Bool.eq_false_or_eq_true (fv dd y)with c1|c1
   ·simp only [u6,c1,if_true]at j2
    repeat' (first
 |simp only[go_sem,hD,gA,gB,gC,AS,qB,c1]
 |(with_reducible refine CU (JX _ _) ?_)
 |(with_reducible first|refine bg fun hc=>?_|refine bh fun hc=>?_|refine bj (fun hc=>?_) fun hc=>?_)<;>(try simp only[hc,bs,↓reduceIte]at h)<;>try simp only[hc]
 |(with_reducible refine aD hQ ?_;(try cases h);simp only[aT,aV,bD,bE,go_sem,hD,gA,gB,gC,AS,qB,c1];try exact bX)
 | (cases h;done))
    refine dW 0 1 ?_ ?_ (IH' (rest,k+1,dd,dd.length) ⟨P4,j2,j3,rfl⟩ (Nat.lt_succ_self _))
    ·(simp only[go_sem,hD,gA,gB,gC,aH oU];try exact bO)
    ·(simp only[go_sem,hD,gA,gB,gC,aH oU];try exact bO)
   ·simp only [u6,c1,Bool.false_eq_true,if_false]at j2 Ap
    repeat' (first
 |simp only[go_sem,hD,gA,gB,gC,AS,qB,c1]
 |(with_reducible refine CU (JX _ _) ?_)
 |(with_reducible first|refine bg fun hc=>?_|refine bh fun hc=>?_|refine bj (fun hc=>?_) fun hc=>?_)<;>(try simp only[hc,bs,↓reduceIte]at h)<;>try simp only[hc]
 |(with_reducible refine aD hQ ?_;(try cases h);simp only[aT,aV,bD,bE,go_sem,hD,gA,gB,gC,AS,qB,c1];try exact bX)
 | (cases h;done))
    refine dW 0 1 ?_ ?_ (IH' (rest,k+1,dd++ [y],dd.length+1) ⟨P4,j2,Ap,by simp⟩ (Nat.lt_succ_self _))
    ·(simp only[go_sem,hD,gA,gB,gC,aH oU,List.map_append,List.map_cons,List.map_nil,encStr];try exact bO)
    ·(simp only[go_sem,hD,gA,gB,gC,aH oU,List.map_append,List.map_cons,List.map_nil,encStr];try exact bO)
theorem Nu (name:aF) : ∀ l:List Pc,l.any (fun f=>f.name==name)=(gQ name l).isSome
 | []=>rfl
 |f::l=>by
  simp only[List.any_cons,gQ]
  cases e:(f.name==name)
  ·simp[Nu name l]
  ·simp
theorem Zx (name:aF) (f:Pc):aE Tryz.prog pY ([.agg (bG f)]++ [.ptr 0 0]) ⟨[[.str name]],[]⟩ (.bool (f.name==name)) ⟨[[.str name]],[]⟩:=by
 show aE Tryz.prog pY [.agg (bG f), .ptr 0 0] _ _ _
 refine aE.go EP rfl fun B Q hB hQ=>?_
 have⟨hD,gA,gB,gC⟩:=cd
 repeat' (first
 |simp only[go_sem,hD,gA,gB,gC]
 |(with_reducible refine aD hQ ?_;exact bx))
def Pg.uD (p:Pg) (name:aF):Option Pc:=if p.scope.1==0 then p.find name else none
theorem Zy {p:Pg} (h:p.jv) (name:aF) (s:St):aE Tryz.prog vW [.agg (bJ p), .str name] s (.bool (p.uD name).isSome) s:=by
 refine aE.pure ?_ (by simp[D.bK,D.ok,jh]) rfl s
 obtain⟨sT,sC,sB⟩:=h.procs
 have qV:=fun s=>xK h s
 have hi:=fun {s:St} {o:Nat} (ho:s.ah[o]? = some [.str name])=>Dx (Cv (l:=p.procs) (f:=pY) (row:= [.str name]) (b:=fun f:Pc=>f.name==name) (by omega) rfl (by with_unfolding_all rfl) (fun x _=>Zx name x)) rfl (yv _) rfl ho
 have iV:=fun {s:St} {o:Nat} (ho:s.ah[o]? = some [.str name])=>(show aE Tryz.prog iR [.slice .shared 5 (p.procs.map bG), .ie 197 [.ptr o 0]] s (.bool (p.procs.any fun f:Pc=>f.name==name)) s from hi ho)
 simp only[Nu]at iV
 unfold Pg.uD Pg.find
 unfold S0
 rcases Bool.eq_false_or_eq_true (p.scope.1==0)with b1|b1
 ·simp only [b1,if_true]
  refine aE.go yC rfl fun B Q hB hQ=>?_
  have⟨hD,gA,gB,gC⟩:=cd
  repeat' (first
 |simp only[go_sem,hD,gA,gB,gC,b1]
 |(with_reducible refine CU (qV _) ?_)
 |(with_reducible refine CU (iV (by with_unfolding_all rfl)) ?_)
 |(with_reducible refine aD hQ ?_;exact bx))
 ·simp only [b1,Bool.false_eq_true,if_false,Option.isSome_none]
  refine aE.go yC rfl fun B Q hB hQ=>?_
  have⟨hD,gA,gB,gC⟩:=cd
  repeat' (first
 |simp only[go_sem,hD,gA,gB,gC,b1]
 |(with_reducible refine CU (qV _) ?_)
 |(with_reducible refine CU (iV (by with_unfolding_all rfl)) ?_)
 |(with_reducible refine aD hQ ?_;exact bx))
def Pg.aAv (p:Pg) (name:aF):List aF:=match p.uD name with|some f=>f.calls|none=> []
def Pg.atV (p:Pg) (name:aF):List aF:=match p.uD name with|some _=>lf (p.work name)|none=> []
theorem DK {p:Pg} {name:aF} {f:Pc} (h:p.uD name=some f):(p.scope.1==0)=true∧p.find name=some f:=by
 unfold Pg.uD at h
 split at h
 ·exact⟨by assumption,h⟩
 ·cases h
def qR (p:Pg) (out:List aF):List aF→List aF
 | []=>out
 |v::l=>qR p (if fv p.globals v then out++ [v]else out) l
def qS (p:Pg) (out:List aF):List Sm→List aF
 | []=>out
 |v::l=>qS p (qR p out v.said) l
def oA (p:Pg) (n:aF):List Sm:=match p.find n with|some f=>Sm.bZ f.body|none=> []
def rW (p:Pg) (out:List aF):List aF→List aF
 | []=>out
 |n::l=>rW p (qS p out (oA p n)) l
theorem BJ (p:Pg) : ∀ (l out:List aF),out.length≤(qR p out l).length∧(qR p out l).length≤out.length+l.length
 | [],out=>⟨Nat.le_refl _,Nat.le_refl _⟩
 |v::l,out=>by
  simp only[qR]
  have h:=BJ p l (if fv p.globals v then out++ [v]else out)
  have h2:out.length≤(if fv p.globals v then out++ [v]else out).length∧(if fv p.globals v then out++ [v]else out).length≤out.length+1:=by split<;>simp
  simp only[List.length_cons]
  omega
def p6:List Sm→Nat
 | []=>0
 |v::l=>v.said.length+p6 l
theorem DL : ∀ a b:List Sm,p6 (a++b)=p6 a+p6 b
 | [],b=>by simp[p6]
 |v::a,b=>by simp only[List.cons_append,p6,DL a b];omega
theorem adB (v:Sm):v.said.length≤1+v.x.size+2*Ar.a7 v.args:=by
 have : ∀ (l:List Ar) (out:List aF),(Ar.said out l).length≤out.length+2*Ar.a7 l:=by
  intro l
  induction l with
  |nil=>intro out;simp[Ar.said]
  |cons a l ih=>
   intro out
   simp only[Ar.said,Ar.a7]
   refine Nat.le_trans (ih _) ?_
   have:=me a.x
   have:1≤a.x.size:=by obtain⟨_,_,_,_⟩:=a.x;simp[Ex.size]
   simp only[List.length_append]
   split<;>simp<;>omega
 have h1:=this v.args (v.u7++v.x.names)
 have h2:=me v.x
 have h4:v.u7.length≤1:=by unfold Sm.u7;split<;>simp
 simp only[List.length_append]at h1
 unfold Sm.said
 omega
mutual
theorem Wq : ∀ s:Sm,p6 s.pre≤2*s.size
 |⟨id,kind,labels,name,proc,x,has,args,aM,aL⟩=>by
  simp only[Sm.pre,p6,DL,Sm.size]
  have h1:=adB ⟨id,kind,labels,name,proc,x,has,args,aM,aL⟩
  have h2:=wU aM
  have h3:=wU aL
  dsimp only at h1
  omega
theorem wU : ∀ l:List Sm,p6 (Sm.bZ l)≤2*Sm.a7 l
 | []=>by simp[Sm.bZ,p6,Sm.a7]
 |s::l=>by
  simp only[Sm.bZ,DL,Sm.a7]
  have:=Wq s;have:=wU l;omega
end
theorem BK (p:Pg) : ∀ (l:List Sm) (out:List aF),out.length≤(qS p out l).length∧(qS p out l).length≤out.length+p6 l
 | [],out=>⟨Nat.le_refl _,Nat.le_refl _⟩
 |v::l,out=>by
  simp only[qS,p6]
  have h:=BK p l (qR p out v.said)
  have h2:=BJ p v.said out
  omega
theorem BL {p:Pg} (h:p.jv) : ∀ (l out:List aF),out.length≤(rW p out l).length∧(rW p out l).length≤out.length+l.length*1800000
 | [],out=>⟨Nat.le_refl _,by simp[rW]⟩
 | n::l,out=>by
  simp only[rW]
  have h1:=BL h l (qS p out (oA p n))
  have h2:=BK p (oA p n) out
  have h3:p6 (oA p n)≤1800000:=by
   unfold oA
   split
   ·rename_i f hf
    have:=wU f.body
    have h4:=Pc.da (sj hf).1
    have h5:=h.procs.2.1
    simp only[Pc.size]at h4
    omega
   ·simp[p6]
  simp only[List.length_cons]
  omega
theorem Wr {p:Pg} (h:p.may=true):p.procs.length≤16:=by
 unfold Pg.may at h
 split at h
 ·cases h
 ·rename_i c
  simp only[Bool.or_eq_true,decide_eq_true_eq,not_or,Int.not_lt,gt_iff_lt]at c
  have:=c.1.2
  omega
def Pg.sk (p:Pg) (name:aF):List aF:=rW p [] (lf (p.work name))
def Pg.mP (p:Pg) (name:aF):List aF:=match p.uD name with|some _=>lf (p.sk name)|none=> []
theorem Nv {p:Pg} (mO:(p.scope.1==0)=true) {name:aF} {f:Pc} (hf:p.find name=some f):Good p (lf (p.work name)):=by
 have h:=DJ mO (p.procs.length+1) 0 [name] (BI hf)
 refine⟨wT (lA _).1,fun x m=>h.2 x ?_⟩
 exact((lA _).2 x).1 m
theorem Ws {p:Pg} (h:p.jv) (name:aF) (s:St):aE Tryz.prog ti [.agg (bJ p), .str name] s (.slice .shared 1 ((p.mP name).map encStr)) s:=by
 refine aE.pure ?_ (by simp[D.bK,D.ok,jh]) (by simp only[D.ok,Tag.ok,fe];rfl) s
 have hk:=fun s=>Zy h name s
 have dC:=fun s=>Ej (p:=p) (by have:=h.procs;omega) s
 unfold Pg.mP
 unfold S0
 cases Zz:p.uD name with
 |none=>
  simp only[Zz,Option.isSome_none]at hk
  simp only[List.map_nil]
  refine aE.go wB rfl fun B Q hB hQ=>?_
  have⟨hD,gA,gB,gC⟩:=cd
  repeat' (first
 |simp only[go_sem,hD,gA,gB,gC]
 |(with_reducible refine CU (hk _) ?_)
 |(with_reducible refine aD hQ ?_;exact bx))
 |some f=>
 obtain⟨mO,hf⟩:=DK Zz
 simp only[Zz,Option.isSome_some]at hk
 dsimp only
 obtain⟨sT,sC,sB⟩:=h.procs
 have hN:=Nv mO hf
 obtain⟨N,hNe⟩ : ∃ N,lf (p.work name)=N:=⟨_,rfl⟩
 rw[hNe]at hN
 have hNl:=hN.len
 obtain⟨R,hR⟩ : ∃ R,p.sk name=R:=⟨_,rfl⟩
 rw[hR]
 unfold Pg.sk at hR
 rw[hNe]at hR
 have hRl:R.length≤28800000:=by
  have:=(BL h N []).2
  rw[hR]at this
  have h4:=Wr (DC mO)
  have h3:N.length*1800000≤16*1800000:=Nat.mul_le_mul_right _ (by omega)
  simp only[List.length_nil]at this
  omega
 have hca:=fun s=>adA h mO hf s
 simp only[hNe]at hca
 obtain⟨fn,Ch,Fh⟩:=wB
 refine aE.intro ⟨fn,Ch,Fh⟩ (Nat.le_of_ble_eq_true rfl) fun B hB=>?_
 generalize hQ:rf (⟨[],[]⟩:St).ah.length (⟨[],[]⟩:St).ay.length _ _ (⟨[],[]⟩:St)=Q
 have⟨hD,gA,gB,gC⟩:=cd
 refine Sem.oh ?_
 repeat' (first
 |simp only[go_sem,hD,gA,gB,gC]
 |(with_reducible refine aD hQ ?_;exact bx))
 refine Sem.oh ?_
 repeat' (first
 |simp only[go_sem,hD,gA,gB,gC]
 |(with_reducible refine CU (hk _) ?_)
 |(with_reducible refine aD hQ ?_;exact bx))
 refine Sem.oh ?_
 repeat' (first
 |simp only[go_sem,hD,gA,gB,gC]
 |(with_reducible refine CU (dC _) ?_)
 |(with_reducible refine aD hQ ?_;exact bx))
 refine Sem.oh ?_
 repeat' (first
 |simp only[go_sem,hD,gA,gB,gC]
 |(with_reducible refine aD hQ ?_;exact bx))
 refine Sem.oh ?_
 repeat' (first
 |simp only[go_sem,hD,gA,gB,gC]
 |(with_reducible refine CU (hca _) ?_)
 |(with_reducible refine aD hQ ?_;exact bx))
 refine bl.s7 6 1 rfl ?_
 simp only[go_sem,hD,gA,gB,gC]
 refine fj 1 1 (bl.ind (ι:=List aF×Nat×List aF×Nat) (fun i=>N.drop i.2.1=i.1∧rW p i.2.2.1 i.1=R∧i.2.2.1.length≤R.length∧i.2.2.2=i.2.2.1.length) (fun i=>i.1.length)
  (fun i=> [(2, .ptr 0 0),(5, .dN (ga p) 0),(6, .slice (.tok 0) 1 (i.2.2.1.map encStr)),(21, .slice .shared 1 (N.map encStr)),(22, .int .i64 (N.length:Int)),(23, .int .i64 (i.2.1:Int))]) (fun i=>⟨[bJ p],[some i.2.2.2]⟩) ?_ (N,0,[],0) ⟨rfl,hR,Nat.zero_le _,rfl⟩)
 rintro⟨rest,k,out,no⟩ ⟨h1,h2,h3,h4⟩ IH
 dsimp only at h1 h2 h3 h4
 subst h4
 cases rest with
 |nil=>
  have hD:=drop_nil h1
  simp only[rW]at h2
  subst h2
  have Hw:(nC out).length=out.length:=List.length_mergeSort out
  repeat' (first
 |simp only[go_sem,hD,gA,gB,gC]
 |(with_reducible refine aD hQ ?_;exact bx))
  refine Sem.seq (Sem.sort (k:=6) (t:=0) (l:=out) hB (by decide) (by decide) (by decide) rfl rfl (by omega) ?_)
  refine Sem.seq (Sem.compact (k:=6) (t:=0) (l:=nC out) hB (by decide) rfl (by rw[Hw];rfl) (by rw[Hw];omega) ?_)
  rw[DG]
  refine jt (ac:= .ret) (Q:=Q) (tm:= [(59, .slice (.tok 0) 1 ((lf out).map encStr)),(4, .slice (.tok 0) 1 ((lf out).map encStr))]) (s:=⟨[],[some (lf out).length]⟩) ?_
  repeat' (first
 |simp only[go_sem,hD,gA,gB,gC]
 |(with_reducible refine aD hQ ?_;exact bx))
 | cons x rest=>
  obtain⟨gA,g2,hD,g4⟩:=drop_cons h1
  have cH:k<4611686018427387904:=by omega
  obtain⟨g,HA⟩:=hN.2 x (List.mem_of_getElem? gA)
  have Fj:=(sj HA).1
  have hbd:oA p x=Sm.bZ g.body:=by unfold oA;rw[HA]
  simp only[rW,hbd]at h2
  obtain⟨j,hj,rB⟩:=DH (k:=0) HA
  have rB:p.at x=((j:Nat):Int):=by unfold Pg.at;simpa using rB
  have sF:=fun s=>Hq (p:=p) (by omega) x s
  simp only[rB]at sF
  obtain⟨it,pZ,DA⟩:=Zj hj (by omega)
  have ahe:it.length≤900000:=by
   have e:=congrArg List.length pZ
   obtain⟨a,b,e',_,_,e3,e4⟩:=(oT p).2 j g hj
   have e5:=qy p
   have e6:=congrArg List.length e3
   rw[e4]at e5
   simp only[List.length_map,List.length_append]at e e5 e6
   omega
  rw[← pZ]at h2
  repeat' (first
 |simp only[go_sem,hD,gA,gB,gC,gA]
 |(with_reducible refine CU (sF _) ?_)
 |(with_reducible refine CU (DA _) ?_)
 | (with_reducible refine aD hQ ?_;exact bx))
  obtain⟨W,hW⟩ : ∃ W,qS p out (it.map Im.s)=W:=⟨_,rfl⟩
  rw[hW]at h2
  have hWR:W.length≤R.length:=by have:=(BL h rest W).1;rw[h2]at this;exact this
  have Wj:out.length≤W.length:=by have:=(BK p (it.map Im.s) out).1;rw[hW]at this;exact this
  refine fj 1 1 (bl.ind (ι:=List Im×Nat×List aF×Nat) (fun i=>it.drop i.2.1=i.1∧qS p i.2.2.1 (i.1.map Im.s)=W∧i.2.2.1.length≤W.length∧i.2.2.2=i.2.2.1.length) (fun i=>i.1.length)
   (fun i=> [(2, .ptr 0 0),(5, .dN (ga p) 0),(6, .slice (.tok 0) 1 (i.2.2.1.map encStr)),(21, .slice .shared 1 (N.map encStr)),(22, .int .i64 (N.length:Int)),(23, .int .i64 (k:Int)),(31, .slice .shared 17 (it.map dM)),(32, .int .i64 (it.length:Int)),(33, .int .i64 (i.2.1:Int))]) (fun i=>⟨[bJ p],[some i.2.2.2]⟩) ?_ (it,0,out,out.length) ⟨rfl,hW,Wj,rfl⟩)
  rintro⟨yN,k2,F5,no⟩ ⟨j1,j2,j3,j4⟩ sD
  dsimp only at j1 j2 j3 j4
  subst j4
  cases yN with
  |nil=>
   have IU:=drop_nil j1
   simp only[List.map_nil,qS]at j2
   subst j2
   repeat' (first
 |simp only[go_sem,hD,gA,gB,gC,IU]
 | (with_reducible refine aD hQ ?_;exact bx))
   refine dW 1 1 ?_ ?_ (IH (rest,k+1,F5,F5.length) ⟨g2,h2,hWR,rfl⟩ (Nat.lt_succ_self _))
   ·(simp only[go_sem,hD,gA,gB,gC,aH cH];try exact bO)
   ·(simp only[go_sem,hD,gA,gB,gC,aH cH];try exact bO)
  |cons y yN=>
   obtain⟨qB,P4,AS,jg4⟩:=drop_cons j1
   have oU:k2<4611686018427387904:=by omega
   have hym:y.s∈Sm.bZ g.body:=by rw[← pZ];exact List.mem_map_of_mem (List.mem_of_getElem? qB)
   have tX:=h.said Fj _ hym
   have hsa:=fun s=>Dy tX s
   have Hw:=Ni _ tX
   simp only[List.map_cons,qS]at j2
   repeat' (first
 |simp only[go_sem,hD,gA,gB,gC,AS,qB]
 |(with_reducible refine CU (hsa _) ?_)
 | (with_reducible refine aD hQ ?_;exact bx))
   obtain⟨V,hV⟩ : ∃ V,qR p F5 y.s.said=V:=⟨_,rfl⟩
   rw[hV]at j2
   have hVW:V.length≤W.length:=by have:=(BK p (yN.map Im.s) V).1;rw[j2]at this;exact this
   have hoV:F5.length≤V.length:=by have:=(BJ p y.s.said F5).1;rw[hV]at this;exact this
   refine fj 1 1 (bl.ind (ι:=List aF×Nat×List aF×Nat) (fun i=>y.s.said.drop i.2.1=i.1∧qR p i.2.2.1 i.1=V∧i.2.2.1.length≤V.length∧i.2.2.2=i.2.2.1.length) (fun i=>i.1.length)
    (fun i=> [(2, .ptr 0 0),(5, .dN (ga p) 0),(6, .slice (.tok 0) 1 (i.2.2.1.map encStr)),(21, .slice .shared 1 (N.map encStr)),(22, .int .i64 (N.length:Int)),(23, .int .i64 (k:Int)),(31, .slice .shared 17 (it.map dM)),(32, .int .i64 (it.length:Int)),(33, .int .i64 (k2:Int)),(39, .slice .shared 1 (y.s.said.map encStr)),(40, .int .i64 (y.s.said.length:Int)),(41, .int .i64 (i.2.1:Int))]) (fun i=>⟨[bJ p],[some i.2.2.2]⟩) ?_ (y.s.said,0,F5,F5.length) ⟨rfl,hV,hoV,rfl⟩)
   rintro⟨HC,k3,BM,no⟩ ⟨l1,l2,l3,l4⟩ IH3
   dsimp only at l1 l2 l3 l4
   subst l4
   cases HC with
   |nil=>
    have atW:=drop_nil l1
    simp only[qR]at l2
    subst l2
    repeat' (first
 |simp only[go_sem,hD,gA,gB,gC,atW]
 | (with_reducible refine aD hQ ?_;exact bx))
    refine dW 1 1 ?_ ?_ (sD (yN,k2+1,BM,BM.length) ⟨P4,j2,hVW,rfl⟩ (Nat.lt_succ_self _))
    ·(simp only[go_sem,hD,gA,gB,gC,aH oU];try exact bO)
    ·(simp only[go_sem,hD,gA,gB,gC,aH oU];try exact bO)
   | cons z HC=>
    obtain⟨ahp,lg2,llt,lg4⟩:=drop_cons l1
    have JY:k3<4611686018427387904:=by omega
    have JX:=fun g s=>km (l:=p.globals) (by omega) z g s
    simp only[qR]at l2
    rcases Bool.eq_false_or_eq_true (fv p.globals z)with c1|c1
    ·simp only [c1,if_true]at l2
     have gB:(BM.length+1)*17≤bp:=by unfold bp;omega
     have hoo:(BM++ [z]).length≤V.length:=by have:=(BJ p HC (BM++ [z])).1;rw[l2]at this;exact this
     repeat' (first
 |simp only[go_sem,hD,gA,gB,gC,llt,ahp,c1]
 |(with_reducible refine CU (JX _ _) ?_)
 | (with_reducible refine aD hQ ?_;exact bx))
     refine dW 1 1 ?_ ?_ (IH3 (HC,k3+1,BM++ [z],BM.length+1) ⟨lg2,l2,hoo,by simp⟩ (Nat.lt_succ_self _))
     ·(simp only[go_sem,hD,gA,gB,gC,aH JY,List.map_append,List.map_cons,List.map_nil,encStr];try exact bO)
     ·(simp only[go_sem,hD,gA,gB,gC,aH JY,List.map_append,List.map_cons,List.map_nil,encStr];try exact bO)
    ·simp only [c1,Bool.false_eq_true,if_false]at l2
     repeat' (first
 |simp only[go_sem,hD,gA,gB,gC,llt,ahp,c1]
 |(with_reducible refine CU (JX _ _) ?_)
 |(with_reducible refine aD hQ ?_;exact bx))
     refine dW 1 1 ?_ ?_ (IH3 (HC,k3+1,BM,BM.length) ⟨lg2,l2,l3,rfl⟩ (Nat.lt_succ_self _))
     ·(simp only[go_sem,hD,gA,gB,gC,aH JY];try exact bO)
     ·(simp only[go_sem,hD,gA,gB,gC,aH JY];try exact bO)
mutual
theorem ZA : ∀ (s:Sm) (n:Nat),(∀ (i:Nat) (v:Sm),s.pre[i]? = some v→v.id=((n+i+1:Nat):Int))→Sm.num true n s=(s,n+s.pre.length)
 | ⟨id,kind,labels,name,proc,x,has,args,aM,aL⟩,n,h=>by
  simp only[Sm.pre]at h
  have h0:=h 0 _ rfl
  have e1:=yO aM (n+1) fun i v hv=>by
   have:=h (i+1) v (by rw[List.getElem?_cons_succ,List.getElem?_append_left (List.getElem?_eq_some_iff.1 hv).1];exact hv)
   rw[this];congr 1;omega
  have e2:=yO aL (n+1+(Sm.bZ aM).length) fun i v hv=>by
   have:=h ((Sm.bZ aM).length+i+1) v (by rw[List.getElem?_cons_succ,List.getElem?_append_right (by omega)];simpa using hv)
   rw[this];congr 1;omega
  simp only at h0
  simp only[Sm.num,Sm.pre,e1,e2,h0,if_true,List.length_cons,List.length_append,Nat.add_zero,Prod.mk.injEq,true_and]
  omega
theorem yO : ∀ (l:List Sm) (n:Nat),(∀ (i:Nat) (v:Sm),(Sm.bZ l)[i]? = some v→v.id=((n+i+1:Nat):Int))→Sm.cW true n l=(l,n+(Sm.bZ l).length)
 | [],n,_=>rfl
 | s::l,n,h=>by
  simp only[Sm.bZ]at h
  have e1:=ZA s n fun i v hv=>h i v (by rw[List.getElem?_append_left (List.getElem?_eq_some_iff.1 hv).1];exact hv)
  have e2:=yO l (n+s.pre.length) fun i v hv=>by
   have:=h (s.pre.length+i) v (by rw[List.getElem?_append_right (by omega)];simpa using hv)
   rw[this];congr 1;omega
  simp only[Sm.cW,Sm.bZ,e1,e2,List.length_append,Prod.mk.injEq,true_and]
  omega
end
theorem HD : ∀ (l:List Pc) (n:Nat),(∀ (i:Nat) (v:Sm),((l.map fun f=>Sm.bZ f.body).flatten)[i]? = some v→v.id=((n+i+1:Nat):Int))→Pc.cW n l=l
 | [],n,_=>rfl
 | f::l,n,h=>by
  simp only[List.map_cons,List.flatten_cons]at h
  have e1:=yO f.body n fun i v hv=>h i v (by rw[List.getElem?_append_left (List.getElem?_eq_some_iff.1 hv).1];exact hv)
  have e2:=HD l (n+(Sm.bZ f.body).length) fun i v hv=>by
   have:=h ((Sm.bZ f.body).length+i) v (by rw[List.getElem?_append_right (by omega)];simpa using hv)
   rw[this];congr 1;omega
  simp only[Pc.cW,e1,e2]
theorem Pq {p:Pg} (h:p.may=true):p.number=p:=by
 unfold Pg.number
 rw[HD p.procs 0 fun i v hv=>by
  have:=AR (p:=p) h (i:=i) (v:=v) hv
  rw[this];congr 1;omega]
theorem Pr {p:Pg} (h:p.may=true) (ho:p.jv):p.As=some p:=by
 unfold Pg.As
 rw[Pq h,if_pos]
 obtain⟨h1,h2,h3⟩:=ho.procs
 unfold Pg.size
 omega
theorem adC {p:Pg} (h:p.jv) (name:aF) (s:St):aE Tryz.prog s8 [.agg (bJ p), .str name] s (qO (if p.may then p.find name else none)) s:=by
 refine aE.pure ?_ (by simp[D.bK,D.ok,jh]) (aha _) s
 have hm:=fun s=>Hg h.Nl s
 simp only[AN]at hm
 obtain⟨sT,sC,sB⟩:=h.procs
 obtain⟨q,hq⟩ : ∃ q,(if p.may then p.find name else none)=q:=⟨_,rfl⟩
 rw[hq]
 unfold S0
 rcases Bool.eq_false_or_eq_true p.may with hb|hb
 case inr=>
  simp only[hb]at hm
  simp only[hb,Bool.false_eq_true,if_false]at hq
  subst hq
  refine aE.go Av rfl fun B Q hB hQ=>?_
  have⟨hD,gA,gB,gC⟩:=cd
  repeat' (first
 |simp only[go_sem,hD,gA,gB,gC,qO,Option.getD_none,Option.isSome_none,Ht]
 |(with_reducible refine CU (hm _) ?_)
 |(with_reducible first|refine bg fun hc=>?_|refine bh fun hc=>?_|refine bj (fun hc=>?_) fun hc=>?_)<;>(try simp only[hc,bs,↓reduceIte]at h)<;>try simp only[hc]
 |(with_reducible refine aD hQ ?_;simp only[aT,aV,bD,bE,go_sem,hD,gA,gB,gC,qO,Option.getD_none,Option.isSome_none,Ht];try exact bX))
 have hn:=fun s=>Zq (Pr hb h) s
 simp only[hb]at hm
 simp only[hb,if_true,Pg.find]at hq
 refine aE.go Av rfl fun B Q hB hQ=>?_
 have⟨hD,gA,gB,gC⟩:=cd
 repeat' (first
 |simp only[go_sem,hD,gA,gB,gC,Wf]
 |(with_reducible refine CU (hm _) ?_)
 |(with_reducible refine CU (hn _) ?_)
 |(with_reducible first|refine bg fun hc=>?_|refine bh fun hc=>?_|refine bj (fun hc=>?_) fun hc=>?_)<;>(try simp only[hc,bs,↓reduceIte]at h)<;>try simp only[hc]
 |(with_reducible refine aD hQ ?_;simp only[aT,aV,bD,bE,go_sem,hD,gA,gB,gC,Wf];try exact bX))
 refine fj 3 0 (bl.ind (ι:=List Pc×Nat) (fun i=>p.procs.drop i.2=i.1∧gQ name i.1=q) (fun i=>i.1.length)
  (fun i=> [(1, .str name),(4, .ptr 1 0),(16, .slice .shared 5 (p.procs.map bG)),(17, .int .i64 (p.procs.length:Int)),(18, .int .i64 (i.2:Int))]) (fun i=>⟨[bJ p,[.str [], .slice .full 0 [], .slice .full 0 [], .slice .full 0 [], .slice .full 0 []],bJ p],[]⟩) ?_ (p.procs,0) ⟨rfl,hq⟩)
 rintro⟨rest,k⟩ ⟨h1,h⟩ IH
 dsimp only at h1 h
 cases rest with
 |nil=>
  have hD:=drop_nil h1
  simp only[gQ]at h
  subst h
  repeat' (first
 |simp only[go_sem,hD,gA,gB,gC,qO,Option.getD_none,Option.isSome_none,Ht]
 |(with_reducible first|refine bg fun hc=>?_|refine bh fun hc=>?_|refine bj (fun hc=>?_) fun hc=>?_)<;>(try simp only[hc,bs,↓reduceIte]at h)<;>try simp only[hc]
 |(with_reducible refine aD hQ ?_;simp only[aT,aV,bD,bE,go_sem,hD,gA,gB,gC,qO,Option.getD_none,Option.isSome_none,Ht];try exact bX))
 | cons a rest=>
  obtain⟨gA,g2,hD,g4⟩:=drop_cons h1
  have cH:k<4611686018427387904:=by omega
  simp only[gQ]at h
  rcases Bool.eq_false_or_eq_true (a.name==name)with b1|b1
  ·simp only [b1,if_true]at h
   subst h
   repeat' (first
 |simp only[go_sem,hD,gA,gB,gC,b1,qO,Option.getD_some,Option.isSome_some]
 |(with_reducible first|refine bg fun hc=>?_|refine bh fun hc=>?_|refine bj (fun hc=>?_) fun hc=>?_)<;>(try simp only[hc,bs,↓reduceIte]at h)<;>try simp only[hc]
 | (with_reducible refine aD hQ ?_;simp only [aT,aV,bD,bE,go_sem,hD,gA,gB,gC,b1,qO,Option.getD_some,Option.isSome_some];try exact bX))
  ·simp only [b1,Bool.false_eq_true,if_false]at h
   repeat' (first
 |simp only[go_sem,hD,gA,gB,gC,b1]
 | (with_reducible refine aD hQ ?_;exact bx))
   refine dW 3 0 ?_ ?_ (IH (rest,k+1) ⟨g2,h⟩ (Nat.lt_succ_self _))
   ·(simp only[go_sem,hD,gA,gB,gC,aH cH];try exact bO)
   ·(simp only[go_sem,hD,gA,gB,gC,aH cH];try exact bO)
theorem Wt {out:List aF} {x y:aF} : y∈u6 out x↔y∈out∨y=x:=by
 unfold u6
 split
 ·rename_i e
  have:=(gJ _ _).1 e
  constructor
  ·exact .inl
  ·rintro(h|rfl)<;>assumption
 ·simp
theorem xL {y:aF} : ∀ {l out:List aF},y∈uC out l↔y∈out∨y∈l
 | [],out=>by simp[uC]
 |x::l,out=>by
  simp only[uC,xL (l:=l),Wt,List.mem_cons,or_assoc]
theorem Nw (p:Pg) {y:aF} : ∀ (n i:Nat) (out:List aF),y∈out→y∈nX p n i out
 | 0,i,out,h=>h
 |n+1,i,out,h=>by
  simp only[nX]
  split
  ·exact Nw p n _ _ (xL.2 (.inl h))
  ·exact h
theorem Nx : ∀ (l out:List aF),∃ e,uC out l=out++e
 | [],out=>⟨[],by simp[uC]⟩
 |x::l,out=>by
  obtain⟨e,h⟩:=Nx l (u6 out x)
  simp only[uC,h]
  unfold u6
  split
  ·exact⟨e,rfl⟩
  ·exact⟨x::e,by simp⟩
theorem Fk {p:Pg} (mO:(p.scope.1==0)=true) : ∀ (n i:Nat) (out:List aF),Good p out→n+i=p.procs.length+1→(∀ (j:Nat) (x:aF),j<i→out[j]? = some x→∀ y∈pz p x,y∈out)→
 ∀ x∈nX p n i out,∀ y∈pz p x,y∈nX p n i out
 | 0,i,out,hg,hn,hc,x,hx,y,hy=>by
  simp only[nX]at hx ⊢
  obtain⟨j,hj⟩:=List.getElem?_of_mem hx
  have:=hg.len
  have:=(List.getElem?_eq_some_iff.1 hj).1
  exact hc j x (by omega) hj y hy
 | n+1,i,out,hg,hn,hc,x,hx,y,hy=>by
  simp only[nX]at hx ⊢
  split at hx
  ·rename_i z hz
   obtain⟨g,rA⟩:=hg.2 z (List.mem_of_getElem? hz)
   refine Fk mO n (i+1) _ (hg.add fun y m=>?_) (by omega) (fun j x hj hjx y hy=>?_) x hx y hy
   ·unfold pz at m
    rw[rA]at m
    exact zM mO (sj rA).1 m
   ·obtain⟨e,he⟩:=Nx (pz p z) out
    have hi:=(List.getElem?_eq_some_iff.1 hz).1
    rw[he,List.getElem?_append_left (by omega)]at hjx
    rcases Nat.lt_or_ge j i with h1|h1
    ·exact xL.2 (.inl (hc j x h1 hjx y hy))
    ·have:j=i:=by omega
     subst this
     rw[hz]at hjx
     cases hjx
     exact xL.2 (.inr hy)
  ·rename_i hz
   obtain⟨j,hj⟩:=List.getElem?_of_mem hx
   have h1:=(List.getElem?_eq_some_iff.1 hj).1
   have h2:=List.getElem?_eq_none_iff.1 hz
   exact hc j x (by omega) hj y hy
theorem HE {p:Pg} {S:aF→Prop} (hS : ∀ x,S x→∀ y∈pz p x,S y) : ∀ (n i:Nat) (out:List aF),(∀ x∈out,S x)→∀ x∈nX p n i out,S x
 | 0,i,out,h,x,hx=>h x hx
 | n+1,i,out,h,x,hx=>by
  simp only[nX]at hx
  split at hx
  ·rename_i z hz
   exact HE hS n _ _ (fun y hy=>(xL.1 hy).elim (h y) (hS z (h z (List.mem_of_getElem? hz)) y)) x hx
  ·exact h x hx
theorem JZ {p:Pg} {x:aF} : ∀ {l out:List aF},x∈qR p out l↔x∈out∨(x∈l∧x∈p.globals)
 | [],out=>by simp[qR]
 | v::l,out=>by
  simp only[qR,JZ (l:=l),List.mem_cons]
  cases e:fv p.globals v
  ·have:v∉p.globals:=fun m=>by rw [(gJ _ _).2 m]at e;cases e
   simp only[Bool.false_eq_true,if_false]
   constructor
   ·rintro(h | ⟨h,k⟩)
    ·exact .inl h
    ·exact .inr ⟨.inr h,k⟩
   ·rintro(h | ⟨rfl | h,k⟩)
    ·exact .inl h
    ·exact absurd k this
    ·exact .inr ⟨h,k⟩
  ·have:v∈p.globals:=(gJ _ _).1 e
   simp only[if_true,List.mem_append,List.mem_singleton]
   constructor
   ·rintro((h | rfl) | ⟨h,k⟩)
    ·exact .inl h
    ·exact .inr ⟨.inl rfl,this⟩
    ·exact .inr ⟨.inr h,k⟩
   ·rintro(h | ⟨rfl | h,k⟩)
    ·exact .inl (.inl h)
    ·exact .inl (.inr rfl)
    ·exact .inr ⟨h,k⟩
def rX:List Sm→List aF
 | []=> []
 |v::l=>v.said++rX l
theorem J0 {p:Pg} {x:aF} : ∀ {l:List Sm} {out:List aF},x∈qS p out l↔x∈out∨(x∈rX l∧x∈p.globals)
 | [],out=>by simp[qS,rX]
 | v::l,out=>by
  simp only[qS,J0 (l:=l),JZ,rX,List.mem_append]
  constructor
  ·rintro((h | ⟨h,k⟩) | ⟨h,k⟩)
   ·exact .inl h
   ·exact .inr ⟨.inl h,k⟩
   ·exact .inr ⟨.inr h,k⟩
  ·rintro(h | ⟨h | h,k⟩)
   ·exact .inl (.inl h)
   ·exact .inl (.inr ⟨h,k⟩)
   ·exact .inr ⟨h,k⟩
def BN (p:Pg):List aF→List aF
 | []=> []
 |n::l=>rX (oA p n)++BN p l
theorem J1 {p:Pg} {x:aF} : ∀ {l:List aF},x∈BN p l↔∃ n∈l,x∈rX (oA p n)
 | []=>by simp[BN]
 |n::l=>by simp[BN,J1 (l:=l)]
theorem J2 {p:Pg} {x:aF} : ∀ {l out:List aF},x∈rW p out l↔x∈out∨(x∈BN p l∧x∈p.globals)
 | [],out=>by simp[rW,BN]
 | v::l,out=>by
  simp only[rW,J2 (l:=l),J0,BN,List.mem_append]
  constructor
  ·rintro((h | ⟨h,k⟩) | ⟨h,k⟩)
   ·exact .inl h
   ·exact .inr ⟨.inl h,k⟩
   ·exact .inr ⟨.inr h,k⟩
  ·rintro(h | ⟨h | h,k⟩)
   ·exact .inl (.inl h)
   ·exact .inl (.inr ⟨h,k⟩)
   ·exact .inr ⟨h,k⟩
theorem J3 {p:Pg} {nm x:aF} {f:Pc} (h:p.uD nm=some f):x∈p.mP nm↔(∃ n∈p.work nm,x∈rX (oA p n))∧x∈p.globals:=by
 unfold Pg.mP
 rw[h]
 dsimp only
 rw[(lA _).2]
 unfold Pg.sk
 rw[J2,J1]
 simp only[(lA _).2,List.not_mem_nil,false_or]
mutual
def Sm.oB (deep cG:Int) (aL:Bool):Sm→List It
 |⟨id,kind,labels,name,proc,x,has,args,aM,e⟩=>⟨⟨id,kind,labels,name,proc,x,has,args,aM,e⟩,deep,cG,aL⟩::(Sm.qC (deep+1) id false aM++Sm.qC (deep+1) id true e)
def Sm.qC (deep cG:Int) (aL:Bool):List Sm→List It
 | []=> []
 |s::l=>s.oB deep cG aL++Sm.qC deep cG aL l
end
mutual
theorem Wu (deep cG:Int) (aL:Bool) (out:List It) : ∀ s:Sm,(iF deep cG aL out s).length≤200→(∀ i∈iF deep cG aL out s,i.deep≤12)→iF deep cG aL out s=out++s.oB deep cG aL
 | ⟨id,kind,labels,name,proc,x,has,args,aM,e⟩,h1,h2=>by
  simp only[iF,Sm.oB]at h1 h2 ⊢
  by_cases hd:deep≤12
  ·simp only [hd,decide_true,if_true]at h1 h2 ⊢
   obtain⟨e2,g2⟩:=qA (deep+1) id true (fw (deep+1) id false (out++ [⟨⟨id,kind,labels,name,proc,x,has,args,aM,e⟩,deep,cG,aL⟩]) aM) e
   have k1:(fw (deep+1) id false (out++ [⟨⟨id,kind,labels,name,proc,x,has,args,aM,e⟩,deep,cG,aL⟩]) aM).length≤200:=by
    rw[g2,List.length_append]at h1;omega
   have k2 : ∀ i∈fw (deep+1) id false (out++ [⟨⟨id,kind,labels,name,proc,x,has,args,aM,e⟩,deep,cG,aL⟩]) aM,i.deep≤12:=fun i m=>h2 i (by rw[g2];exact List.mem_append_left _ m)
   rw[yP (deep+1) id true _ e h1 h2,yP (deep+1) id false _ aM k1 k2]
   simp
  ·simp only [hd,decide_false,Bool.false_eq_true,if_false]at h1 h2
   exact absurd (h2 _ (List.mem_append_right _ (List.mem_singleton.2 rfl))) (by simpa using hd)
theorem yP (deep cG:Int) (aL:Bool) (out:List It) : ∀ l:List Sm,(fw deep cG aL out l).length≤200→(∀ i∈fw deep cG aL out l,i.deep≤12)→fw deep cG aL out l=out++Sm.qC deep cG aL l
 | [],h1,h2=>by simp[fw,Sm.qC]
 | s::l,h1,h2=>by
  simp only[fw,Sm.qC]at h1 h2 ⊢
  by_cases hc:(out.length:Int)≤200
  ·simp only [hc,decide_true,if_true]at h1 h2 ⊢
   obtain⟨e2,g2⟩:=qA deep cG aL (iF deep cG aL out s) l
   have k1:(iF deep cG aL out s).length≤200:=by rw[g2,List.length_append]at h1;omega
   have k2 : ∀ i∈iF deep cG aL out s,i.deep≤12:=fun i m=>h2 i (by rw[g2];exact List.mem_append_left _ m)
   rw[yP deep cG aL _ l h1 h2,Wu deep cG aL out s k1 k2]
   simp
  ·simp only [hc,decide_false,Bool.false_eq_true,if_false]at h1
   omega
end
theorem Ny : ∀ (l:List Pc) (out:List It),(allM out l).length≤200→(∀ i∈allM out l,i.deep≤12)→(∀ f∈l,f.flat=Sm.qC 1 0 false f.body)∧allM out l=out++(l.map fun f=>Sm.qC 1 0 false f.body).flatten
 | [],out,h1,h2=>⟨fun f m=>(by cases m),by simp[allM]⟩
 | f::l,out,h1,h2=>by
  simp only[allM]at h1 h2 ⊢
  by_cases hc:(((out++f.flat).length:Nat):Int) > 200
  ·simp only[hc,decide_true,if_true]at h1;omega
  ·simp only [hc,decide_false,Bool.false_eq_true,if_false]at h1 h2 ⊢
   obtain⟨k1,k2⟩:=Ny l (out++f.flat) h1 h2
   have k3:f.flat=Sm.qC 1 0 false f.body:=by
    have:=yP 1 0 false [] f.body (by
     have:f.flat.length≤200:=by simp only[List.length_append]at hc;omega
     exact this) (fun i m=>h2 i (by rw[k2];exact List.mem_append_left _ (List.mem_append_right _ m)))
    simpa[Pc.flat]using this
   refine⟨fun g m=>?_, ?_⟩
   ·rcases List.mem_cons.1 m with rfl | m
    ·exact k3
    ·exact k1 g m
   ·rw[k2,k3];simp
theorem adD {p:Pg} (h:p.may=true):(∀ f∈p.procs,f.flat=Sm.qC 1 0 false f.body)∧p.all=(p.procs.map fun f=>Sm.qC 1 0 false f.body).flatten:=by
 obtain⟨h1,h2⟩:=w5 h
 have:=Ny p.procs [] h1 (yL _ 0 h2).1
 simpa[Pg.all]using this
mutual
theorem ak3 (deep cG:Int) (aL:Bool) : ∀ s:Sm,(s.oB deep cG aL).map It.s=s.pre
 |⟨id,kind,labels,name,proc,x,has,args,aM,e⟩=>by
  simp only[Sm.oB,Sm.pre,List.map_cons,List.map_append,HF _ _ _ aM,HF _ _ _ e]
theorem HF (deep cG:Int) (aL:Bool) : ∀ l:List Sm,(Sm.qC deep cG aL l).map It.s=Sm.bZ l
 | []=>rfl
 |s::l=>by simp only[Sm.qC,Sm.bZ,List.map_append,ak3 _ _ _ s,HF _ _ _ l]
end
def dY (l:List Sm) (none:Int):Int:=match l with| []=>none|t::_=>t.id
mutual
def Sm.tD (proc up next loop:Int):Sm→List Im
 |⟨id,kind,labels,name,pc,x,has,args,aM,aL⟩=>⟨⟨id,kind,labels,name,pc,x,has,args,aM,aL⟩,proc,up,next,loop⟩::
  (Sm.iM proc id (if kind==6 then id else next) (if kind==6 then id else loop) aM++Sm.iM proc id (if kind==6 then id else next) (if kind==6 then id else loop) aL)
def Sm.iM (proc up next loop:Int):List Sm→List Im
 | []=> []
 |s::l=>s.tD proc up (dY l next) loop++Sm.iM proc up next loop l
end
theorem ahq (proc up next loop:Int) (s:Sm):s.tD proc up next loop = ⟨s,proc,up,next,loop⟩::(Sm.iM proc s.id (if s.kind==6 then s.id else next) (if s.kind==6 then s.id else loop) s.aM++Sm.iM proc s.id (if s.kind==6 then s.id else next) (if s.kind==6 then s.id else loop) s.aL):=by cases s;simp only[Sm.tD]
def pO (n:Nat) (l:List Sm):Prop:=∀ (i:Nat) (v:Sm),l[i]? = some v→v.id=((n+i+1:Nat):Int)
theorem pO.head {n:Nat} {v:Sm} {l:List Sm} (h:pO n (v::l)):v.id=((n+1:Nat):Int):=h 0 v rfl
theorem pO.tail {n:Nat} {v:Sm} {l:List Sm} (h:pO n (v::l)):pO (n+1) l:=fun i w hw=>by
 rw[h (i+1) w (by simpa using hw)];congr 1;omega
theorem pO.left {n:Nat} {a b:List Sm} (h:pO n (a++b)):pO n a:=fun i w hw=>h i w (by rw[List.getElem?_append_left (List.getElem?_eq_some_iff.1 hw).1];exact hw)
theorem pO.right {n:Nat} {a b:List Sm} (h:pO n (a++b)):pO (n+a.length) b:=fun i w hw=>by
 rw[h (a.length+i) w (by rw[List.getElem?_append_right (by omega)];simpa using hw)];congr 1;omega
theorem ZB (s:Sm):s.pre=s::(Sm.bZ s.aM++Sm.bZ s.aL):=Sm.mN s
mutual
theorem P8 : ∀ s:Sm,s.iE=s.pre.length
 |⟨id,kind,labels,name,proc,x,has,args,aM,aL⟩=>by
  simp only[Sm.iE,Sm.pre,List.length_cons,List.length_append,BO aM,BO aL];omega
theorem BO : ∀ l:List Sm,Sm.fR l=(Sm.bZ l).length
 | []=>rfl
 |s::l=>by simp only[Sm.fR,Sm.bZ,List.length_append,P8 s,BO l]
end
mutual
theorem abY (proc up next loop:Int) : ∀ s:Sm,(s.tD proc up next loop).map Im.s=s.pre
 |⟨id,kind,labels,name,pc,x,has,args,aM,aL⟩=>by
  simp only[Sm.tD,Sm.pre,List.map_cons,List.map_append,tF _ _ _ _ aM,tF _ _ _ _ aL]
theorem tF (proc up next loop:Int) : ∀ l:List Sm,(Sm.iM proc up next loop l).map Im.s=Sm.bZ l
 | []=>rfl
 |s::l=>by simp only[Sm.iM,Sm.bZ,List.map_append,abY _ _ _ _ s,tF _ _ _ _ l]
end
theorem adE (proc up next loop:Int) (s:Sm):(s.tD proc up next loop).length=s.pre.length:=by rw[← abY proc up next loop s,List.length_map]
theorem F6 (proc up next loop:Int) (l:List Sm):(Sm.iM proc up next loop l).length=(Sm.bZ l).length:=by rw[← tF proc up next loop l,List.length_map]
mutual
theorem adF (proc up next loop:Int) (out:List Im) : ∀ s:Sm,pO out.length s.pre→Im.one proc up next loop out s=out++s.tD proc up next loop
 | ⟨id,kind,labels,name,pc,x,has,args,aM,aL⟩,h=>by
  simp only[Sm.pre]at h
  have h0:id=((out.length+1:Nat):Int):=h.head
  have h1:=h.tail.left
  have h2:=h.tail.right
  have e0:((out.length:Int)+1)=id:=by rw[h0];rfl
  simp only[Im.one,Sm.tD,e0]
  rw[xM proc id _ _ (out++ [_]) aM (by rw[List.length_append];exact h1)]
  rw[xM proc id _ _ _ aL (by
   rw[List.length_append,List.length_append,F6];exact h2)]
  simp
theorem xM (proc up next loop:Int) (out:List Im) : ∀ l:List Sm,pO out.length (Sm.bZ l)→Im.rows proc up next loop out l=out++Sm.iM proc up next loop l
 | [],h=>by simp[Im.rows,Sm.iM]
 | s::l,h=>by
  simp only[Sm.bZ]at h
  have e:(if l.length=0 then next else(out.length:Int)+1+(s.iE:Int))=dY l next:=by
   cases l with
   |nil=>rfl
   |cons t l=>
    have h2:=h.right
    simp only[Sm.bZ]at h2
    rw[ZB t]at h2
    simp only[List.length_cons,dY]
    rw[if_neg (by omega),h2.head,P8]
    omega
  simp only[Im.rows,Sm.iM,e]
  rw[adF proc up _ loop out s h.left,xM proc up next loop _ l (by rw[List.length_append,adE];exact h.right)]
  simp
end
def rr (n:Nat):List Pc→List Im
 | []=> []
 |f::l=>Sm.iM n 0 (-1) 0 f.body++rr (n+1) l
theorem Wv : ∀ (l:List Pc) (n:Nat) (h:Sh),pO h.L.length ((l.map fun f=>Sm.bZ f.body).flatten)→(Sh.go n h l).L=h.L++rr n l
 | [],n,h,_=>by simp[Sh.go,rr]
 | f::l,n,h,hi=>by
  simp only[List.map_cons,List.flatten_cons]at hi
  simp only[Sh.go,rr]
  have e:=xM (n:Int) 0 (-1) 0 h.L f.body hi.left
  rw[Wv l (n+1) _ (by
   show pO (Im.rows (n:Int) 0 (-1) 0 h.L f.body).length _
   rw[e,List.length_append,F6];exact hi.right)]
  show Im.rows (n:Int) 0 (-1) 0 h.L f.body++_=_
  rw[e];simp
theorem P9 {p:Pg} (h:p.may=true):pO 0 p.pre:=fun i v hv=>by rw[AR h hv];congr 1;omega
theorem J4 {p:Pg} (h:p.may=true):p.bc.L=rr 0 p.procs:=by
 have:=Wv p.procs 0 ⟨[],[],[]⟩ (P9 h)
 simpa[Pg.bc]using this
def Ww (l:List It):Nat→Int→Int
 | 0,_=>0
 |n+1,cG=>if cG==0 then 0 else match l[n]? with
  |none=>0
  |some x=>if x.s.id != cG then Ww l n cG else if x.s.kind==6 then cG else Ww l n x.cG
def Up (L:List It) (k:Nat) (oB:List It) (tD:List Im):Prop:=∀ (i:Nat) (a:It) (b:Im),oB[i]? = some a→tD[i]? = some b→a.s=b.s∧a.cG=b.up∧Ww L (k+i) a.cG=b.loop
def jG (seen:List aF):List aF→List aF×Bool
 | []=>(seen,true)
 |n::l=>if fv seen n then(seen,false)else jG (seen++ [n]) l
theorem DM : ∀ (l seen:List aF),jG seen l=(if rK seen l then((jG seen l).1,false)else(seen++l,true))
 | [],seen=>by simp[jG,rK]
 | n::l,seen=>by
  simp only[jG,rK]
  split
  ·rfl
  ·rw [DM l (seen++ [n])]
   split
   ·rfl
   ·simp
theorem Qa : ∀ (a b seen:List aF),rK seen (a++b)=(rK seen a ||rK (seen++a) b)
 | [],b,seen=>by simp[rK]
 |x::a,b,seen=>by
  simp only[List.cons_append,rK]
  split
  ·rfl
  ·rw[Qa a b (seen++ [x])];simp
theorem J5 : ∀ (l seen:List aF),seen.length≤(jG seen l).1.length∧(jG seen l).1.length≤seen.length+l.length
 | [],seen=>by simp[jG]
 |n::l,seen=>by
  simp only[jG]
  split
  ·simp
  ·have:=J5 l (seen++ [n]);simp at this ⊢;omega
def kn (lK:List aF) (v:Sm) (loop:Int):Bool:=if v.kind==7 ||v.kind==8 then loop != 0 else if v.kind==10 then fv lK v.name else true
def u9 (lK fin seen:List aF):List (Sm×Int)→Option Int
 | []=>if(jG seen fin).2 then none else some 0
 |(v,lp)::l=>if(jG seen v.labels).2 then(if kn lK v lp then u9 lK fin (jG seen v.labels).1 l else some v.id)else some v.id
def gy:List Sm→List aF
 | []=> []
 |v::l=>v.labels++gy l
def Pc.labels (f:Pc):List aF:=gy (Sm.bZ f.body)++f.fin
def Im.pair (m:Im):Sm×Int:=(m.s,m.loop)
def Pc.qT (f:Pc):List (Sm×Int):=(Sm.iM 0 0 (-1) 0 f.body).map Im.pair
def va:List Pc→Option Int
 | []=>none
 |f::l=>match u9 f.labels f.fin [] f.qT with
  |some id=>some id
  |none=>va l
def AW (c:Int):Option Int→Int×Int
 |some id=>(c,id)
 |none=>(0,0)
def Pg.jump (p:Pg):Int×Int:=if p.scope.1==0 then AW 7 (va p.procs)else(1,0)
mutual
theorem ZC (proc up next wV Wx next' loop:Int) : ∀ s:Sm,(s.tD proc up next loop).map Im.pair=(s.tD wV Wx next' loop).map Im.pair
 |⟨id,kind,labels,name,pc,x,has,args,aM,aL⟩=>by
  simp only[Sm.tD,List.map_cons,List.map_append,Im.pair]
  rw[yQ proc id _ wV id (if kind==6 then id else next') _ aM,yQ proc id _ wV id (if kind==6 then id else next') _ aL]
theorem yQ (proc up next wV Wx next' loop:Int) : ∀ l:List Sm,(Sm.iM proc up next loop l).map Im.pair=(Sm.iM wV Wx next' loop l).map Im.pair
 | []=>rfl
 |s::l=>by
  simp only[Sm.iM,List.map_append]
  rw[ZC proc up _ wV Wx (dY l next') loop s,yQ proc up next wV Wx next' loop l]
end
theorem Nz (n:Int) (f:Pc):(Sm.iM n 0 (-1) 0 f.body).map Im.pair=f.qT:=yQ _ _ _ _ _ _ _ _
theorem Qb (f:Pc):f.qT.map Prod.fst=Sm.bZ f.body:=by
 unfold Pc.qT
 rw[List.map_map, ← tF 0 0 (-1) 0 f.body]
 rfl
def Qc (l:List It):Nat→Int→Int
 | 0,_=>0
 |n+1,id=>match l[n]? with
  |none=>0
  |some x=>if x.s.id != id then Qc l n id else if Ww l n x.cG != 0 then Ww l n x.cG else Qc l n id
def ng (nm:aF) (T:List aF) (seen:List aF):List Ar→Bool
 | []=>true
 |a::l=>if a.ref then(if fv seen a.name ||(a.name==nm ||fv T a.name)then false else ng nm T (seen++ [a.name]) l)else ng nm T seen l
def apM (T:List aF) (seen:List aF):List Ar→Bool
 | []=>true
 |a::l=>if a.ref then(if fv seen a.name ||fv T a.name then false else apM T (seen++ [a.name]) l)else apM T seen l
def Sm.atX (v:Sm):List aF:=if v.name != []then [v.name]else []
theorem ZD {v:Sm} (s6:v.args.length<1000000000) {T:List aF} (hT:T.length<4611686018427387904) (s:St) :
 aE Tryz.prog uv [.agg (aS v), .slice .shared 1 (T.map encStr)] s (.bool (ng v.name T [] v.args)) s:=by
 refine aE.pure ?_ (by simp[D.bK,D.ok,pI,Tag.ok,fe]) rfl s
 generalize hR:ng v.name T [] v.args=R
 have hcT:=fun x s=>tB hT x s
 unfold S0
 refine aE.go FU rfl fun B Q hB hQ=>?_
 have⟨hD,gA,gB,gC⟩:=cd
 repeat' (first
 |simp only[go_sem,hD,gA,gB,gC]
 |(with_reducible refine aD hQ ?_;exact bx))
 refine bl.s7 5 1 rfl ?_
 simp only[go_sem,hD,gA,gB,gC]
 refine fj 1 1 (bl.ind (ι:=List Ar×Nat×List aF×Nat) (fun i=>v.args.drop i.2.1=i.1∧ng v.name T i.2.2.1 i.1=R∧i.2.2.1.length≤i.2.1∧i.2.2.2=i.2.2.1.length) (fun i=>i.1.length)
  (fun i=> [(1, .slice .shared 1 (T.map encStr)),(2, .ptr 0 0),(5, .slice (.tok 0) 1 (i.2.2.1.map encStr)),(9, .slice .shared 6 (v.args.map eR)),(10, .int .i64 (v.args.length:Int)),(11, .int .i64 (i.2.1:Int))]) (fun i=>⟨[aS v],[some i.2.2.2]⟩) ?_ (v.args,0,[],0) ⟨rfl,hR,Nat.le_refl _,rfl⟩)
 clear hR
 rintro⟨rest,k,seen,n'⟩ ⟨h1,h2,h3,h4⟩ IH
 dsimp only at h1 h2 h3 h4
 subst h4
 cases rest with
 |nil=>
  have hD:=drop_nil h1
  simp only[ng]at h2
  subst h2
  repeat' (first
 |simp only[go_sem,hD,gA,gB,gC]
 |(with_reducible refine aD hQ ?_;exact bx))
 | cons a rest=>
  obtain⟨gA,g2,hD,g4⟩:=drop_cons h1
  have cH:k<4611686018427387904:=by omega
  have gB:(seen.length+1)*17≤bp:=by unfold bp;omega
  have oP:=fun g s=>km (l:=seen) (by omega) a.name g s
  simp only[ng]at h2
  rcases Bool.eq_false_or_eq_true a.ref with c1|c1
  case inr=>
   simp only[c1,Bool.false_eq_true,if_false]at h2
   repeat' (first
 |simp only[go_sem,hD,gA,gB,gC,c1,Bool.not_false]
 | (with_reducible refine aD hQ ?_;exact bx))
   refine dW 1 1 ?_ ?_ (IH (rest,k+1,seen,_) ⟨g2,h2,by dsimp only;omega,rfl⟩ (Nat.lt_succ_self _))
   ·(simp only[go_sem,hD,gA,gB,gC,aH cH];try exact bO)
   ·(simp only[go_sem,hD,gA,gB,gC,aH cH];try exact bO)
  simp only[c1,if_true]at h2
  rcases Bool.eq_false_or_eq_true (fv seen a.name)with c2|c2
  ·simp only [c2,Bool.true_or,if_true]at h2
   subst h2
   repeat' (first
 |simp only[go_sem,hD,gA,gB,gC,c1,c2,Bool.not_true]
 |(with_reducible refine CU (oP _ _) ?_)
 |(with_reducible refine CU (hcT _ _) ?_)
 | (with_reducible refine aD hQ ?_;exact bx))
  rcases Bool.eq_false_or_eq_true (a.name==v.name)with c3|c3
  ·simp only [c2,c3,Bool.false_or,Bool.true_or,if_true]at h2
   subst h2
   repeat' (first
 |simp only[go_sem,hD,gA,gB,gC,c1,c2,c3,Bool.not_true]
 |(with_reducible refine CU (oP _ _) ?_)
 |(with_reducible refine CU (hcT _ _) ?_)
 | (with_reducible refine aD hQ ?_;exact bx))
  rcases Bool.eq_false_or_eq_true (fv T a.name)with c4|c4
  ·simp only [c2,c3,c4,Bool.false_or,if_true]at h2
   subst h2
   repeat' (first
 |simp only[go_sem,hD,gA,gB,gC,c1,c2,c3,c4,Bool.not_true]
 |(with_reducible refine CU (oP _ _) ?_)
 |(with_reducible refine CU (hcT _ _) ?_)
 | (with_reducible refine aD hQ ?_;exact bx))
  ·simp only [c2,c3,c4,Bool.false_or,Bool.false_eq_true,if_false]at h2
   repeat' (first
 |simp only[go_sem,hD,gA,gB,gC,c1,c2,c3,c4,Bool.not_true]
 |(with_reducible refine CU (oP _ _) ?_)
 |(with_reducible refine CU (hcT _ _) ?_)
 | (with_reducible refine aD hQ ?_;exact bx))
   refine dW 1 1 ?_ ?_ (IH (rest,k+1,seen++ [a.name],seen.length+1) ⟨g2,h2,by simp;omega,by simp⟩ (Nat.lt_succ_self _))
   ·(simp only[go_sem,hD,gA,gB,gC,aH cH,List.map_append,List.map_cons,List.map_nil,encStr];try exact bO)
   ·(simp only[go_sem,hD,gA,gB,gC,aH cH,List.map_append,List.map_cons,List.map_nil,encStr];try exact bO)
def oD (p:Pg):List Pc→List D
 | []=> []
 |f::l=> .str f.name:: .slice .shared 1 ((p.mP f.name).map encStr)::oD p l
theorem Wy (p:Pg) : ∀ l,D.bK 0 0 (oD p l)=true
 | []=>rfl
 |f::l=>by simp only[oD,D.bK,D.ok,Tag.ok,fe,Wy p l];rfl
theorem adG (n m:Nat) (p:Pg) (l:List Pc):D.gT n m (oD p l)=oD p l:=iX n m _ (Wy p l)
attribute [go_sem] adG
theorem NA (p:Pg) : ∀ l m,oD p (l++m)=oD p l++oD p m
 | [],m=>rfl
 |f::l,m=>by simp only[List.cons_append,oD,NA p l m]
theorem NB {p:Pg} {nm:aF} {d:D} : ∀ {l:List Pc},nm∉l.map (·.name)→yZ nm d (oD p l)=some (oD p l++ [.str nm,d])
 | [],_=>rfl
 |f::l,h=>by
  simp only[List.map_cons,List.mem_cons,not_or]at h
  have:(f.name==nm)=false:=by simpa using fun e=>h.1 e.symm
  simp only[oD,yZ,this,Bool.false_eq_true,if_false,NB h.2,List.cons_append]
theorem NC {p:Pg} {nm:aF} {z:D} : ∀ {l:List Pc} {f:Pc},gQ nm l=some f→Ba nm z (oD p l)=some (.slice .shared 1 ((p.mP nm).map encStr))
 | g::l,f,h=>by
  simp only[gQ]at h
  simp only[oD,Ba]
  split at h
  ·rename_i e
   rw[if_pos e,eq_of_beq e]
  ·rename_i e
   rw[if_neg e]
   exact NC h
theorem adH (l:List aF) : ∀ (s:List aF),rK s l=false→∀ a x b,l=a++x::b→x∉s++a:=by
 induction l with
 |nil=>intro s _ a x b e;cases a<;>cases e
 | cons y l ih=>
  intro s h a x b e
  simp only[rK]at h
  split at h
  ·cases h
  ·rename_i hy
   cases a with
   |nil=>cases e;simpa[← gJ]using hy
   |cons z a=>
    cases e
    have:=ih (s++ [y]) h a x b rfl
    simpa using this
end Go.Abs
namespace Go.Abs
set_option maxRecDepth 8000
open Go.Proofs
theorem ND {p:Pg} (h:(p.arity.1==0)=true):(p.scope.1==0)=true∧∀ v∈p.pre,(v.kind==4)=true→v.pb p=true:=by
 unfold Pg.arity at h
 split at h
 ·rename_i e
  refine⟨e,fun v hv hk=>?_⟩
  have : ∀ l:List Sm,((rL 6 (Hv p l)).1==0)=true→∀ v∈l,(v.kind==4)=true→v.pb p=true:=by
   intro l
   induction l with
   |nil=>intro _ v m;cases m
   | cons a l ih=>
    intro h v m hk
    simp only[Hv]at h
    split at h
    ·cases h
    ·rename_i c
     rcases List.mem_cons.1 m with rfl|m
     ·simpa[hk]using c
     ·exact ih h v m hk
  exact this _ h v hv hk
 ·cases h
theorem J6 {p:Pg} {v:Sm} (h:v.pb p=true) : ∃ f,p.find v.proc=some f:=by
 unfold Sm.pb at h
 cases e:p.find v.proc with
 |some f=>exact⟨f,rfl⟩
 |none=>rw[e]at h;simp at h
theorem NF : ∀ {l:List It} {n:Nat} {i:It},It.fD n l=true→i∈l→i.s.one=true
 | j::l,n,i,h,m=>by
  simp only[It.fD]at h
  split at h
  ·cases h
  ·rename_i c
   simp only[Bool.or_eq_true,not_or,Bool.not_eq_true',Bool.not_eq_false]at c
   rcases List.mem_cons.1 m with rfl|m
   ·exact c.2
   ·exact NF h m
theorem IV {p:Pg} (h:p.may=true) : ∀ v∈p.pre,v.one=true:=fun v m=>by
 rw[← (F1 h).2,List.mem_map]at m
 obtain⟨i,hi,rfl⟩:=m
 exact NF (w5 h).2 hi
def Sm.uE (p:Pg) (v:Sm):Bool:=ng v.name (p.mP v.proc) [] v.args
def HG (p:Pg):List Sm→Option Sm
 | []=>none
 |v::l=>if v.kind==4 && !(v.uE p)then some v else HG p l
def Pg.alias (p:Pg):Int×Int:=if p.arity.1==0 then rL 8 (HG p p.pre)else(1,0)
theorem NG {p:Pg} (h:p.jv) (nm:aF):(p.mP nm).length<4611686018427387904:=by
 unfold Pg.mP
 cases hs:p.uD nm with
 |none=>dsimp only;decide
 |some f=>
  obtain⟨mO,hf⟩:=DK hs
  have h1:=(Nv mO hf).len
  have h2:=h.procs
  have h3:=(BL h (lf (p.work nm)) []).2
  have h4:(lf (p.work nm)).length*1800000≤900000*1800000:=Nat.mul_le_mul_right _ (by omega)
  have h5:(lf (p.sk nm)).length≤(p.sk nm).length:=yM _ _ (wT (lA _).1) fun x m=>((lA _).2 x).1 m
  dsimp only
  unfold Pg.sk at *
  simp only[List.length_nil]at h3
  omega
theorem Tt {v:Sm} (hv:v.oy):v.args.length<1000000000:=by have:=Ar.dJ v.args;have:=hv.2.2;omega
theorem Wz {p:Pg} (h:p.jv) (s:St):aE Tryz.prog vT [.agg (bJ p)] s (.agg [.int .i64 p.alias.1, .int .i64 p.alias.2]) s:=by
 refine aE.pure ?_ (by simp[D.bK,D.ok,jh]) rfl s
 obtain⟨sT,sC,sB⟩:=h.procs
 have qV:=fun s=>No h s
 have dC:=fun s=>Ej (p:=p) (by omega) s
 have hL:=(oT p).1
 have JO:=qy p
 generalize hR:p.alias=R
 simp only[Pg.alias]at hR
 unfold S0
 have b0:(p.arity.1 != 0) = !(p.arity.1==0):=rfl
 rcases Bool.eq_false_or_eq_true (p.arity.1==0)with b1|b1
 case inr=>
  rw[b1]at b0
  simp only[b1,Bool.false_eq_true,if_false]at hR
  subst hR
  refine aE.go yA rfl fun B Q hB hQ=>?_
  have⟨hD,gA,gB,gC⟩:=cd
  repeat' (first
 |simp only[go_sem,hD,gA,gB,gC,b0,Bool.not_false]
 |(with_reducible refine CU (qV _) ?_)
 |(with_reducible refine aD hQ ?_;exact bx))
 rw[b1]at b0
 obtain⟨mO,jZ⟩:=ND b1
 have htw:=(F4 mO).2.1
 simp only[b1,if_true, ← hL]at hR
 refine aE.go yA rfl fun B Q hB hQ=>?_
 have⟨hD,gA,gB,gC⟩:=cd
 repeat' (first
 |simp only[go_sem,hD,gA,gB,gC,b0,Bool.not_true]
 |(with_reducible refine CU (qV _) ?_)
 |(with_reducible refine aD hQ ?_;exact bx))
 refine dW 3 0 ?_ ?_ (bl.ind (ι:=List Pc×Nat×List Pc) (fun i=>p.procs.drop i.2.1=i.1∧p.procs=i.2.2++i.1) (fun i=>i.1.length)
  (fun i=> [(1, .ptr 0 0),(2, .ptr 1 0),(3, .gR 2),(15, .slice .shared 5 (p.procs.map bG)),(16, .int .i64 (p.procs.length:Int)),(17, .int .i64 (i.2.1:Int))]) (fun i=>⟨[bJ p,[.int .i64 0, .int .i64 0],oD p i.2.2],[]⟩) ?_ (p.procs,0,[]) ⟨rfl,rfl⟩)
 ·(simp only[go_sem,hD,gA,gB,gC,oD];try exact bO)
 ·(simp only[go_sem,hD,gA,gB,gC,oD];try exact bO)
 rintro⟨rest,k,done⟩ ⟨h1,h2⟩ IH
 dsimp only at h1 h2
 cases rest with
 | cons a rest=>
  obtain⟨gA,g2,hD,g4⟩:=drop_cons h1
  have cH:k<4611686018427387904:=by omega
  have xc:=fun s=>Ws h a.name s
  have PX:a.name∉done.map (·.name):=by
   have:=adH _ [] htw (done.map (·.name)) a.name (rest.map (·.name)) (by simp[Pg.pn,h2])
   simpa using this
  have hmp:yZ a.name (.slice .shared 1 ((p.mP a.name).map encStr)) (oD p done)=some (oD p (done++ [a])):=by
   rw[NB PX,NA];rfl
  repeat' (first
 |simp only[go_sem,hD,gA,gB,gC,hmp]
 |(with_reducible refine CU (xc _) ?_)
 |(with_reducible refine aD hQ ?_;exact bx))
  refine dW 3 0 ?_ ?_ (IH (rest,k+1,done++ [a]) ⟨g2,by rw[h2];simp⟩ (Nat.lt_succ_self _))
  ·(simp only[go_sem,hD,gA,gB,gC,aH cH];try exact bO)
  ·(simp only[go_sem,hD,gA,gB,gC,aH cH];try exact bO)
 |nil=>
  have hD:=drop_nil h1
  rw[List.append_nil]at h2
  subst h2
  repeat' (first
 |simp only[go_sem,hD,gA,gB,gC,o9]
 |(with_reducible refine CU (dC _) ?_)
 | (with_reducible refine aD hQ ?_;exact bx))
  refine fj 3 0 (bl.ind (ι:=List Im×Nat) (fun i=>p.bc.L.drop i.2=i.1∧rL 8 (HG p (i.1.map Im.s))=R) (fun i=>i.1.length)
   (fun i=> [(1, .ptr 0 0),(2, .ptr 1 0),(3, .gR 2),(33, .slice .shared 17 (p.bc.L.map dM)),(34, .int .i64 (p.bc.L.length:Int)),(35, .int .i64 (i.2:Int))]) (fun i=>⟨[bJ p,[.int .i64 0, .int .i64 0],oD p p.procs],[]⟩) ?_ (p.bc.L,0) ⟨rfl,hR⟩)
  clear hR
  rintro⟨rest,k⟩ ⟨h1,hR⟩ IH
  dsimp only at h1 hR
  cases rest with
  |nil=>
   have hD:=drop_nil h1
   simp only[List.map_nil,HG,rL]at hR
   subst hR
   repeat' (first
 |simp only[go_sem,hD,gA,gB,gC]
 | (with_reducible refine aD hQ ?_;exact bx))
  | cons a rest=>
   obtain⟨gA,g2,hD,g4⟩:=drop_cons h1
   have cH:k<4611686018427387904:=by omega
   have DB:a.s∈p.pre:=by rw[← hL];exact List.mem_map_of_mem (List.mem_of_getElem? gA)
   have sP:=fun s=>ZD (Tt (h.pre _ DB)) (NG h a.s.proc) s
   simp only[List.map_cons,HG,Sm.uE]at hR
   rcases Bool.eq_false_or_eq_true (a.s.kind==4)with c1|c1
   ·obtain⟨f,hf⟩:=J6 (jZ _ DB c1)
    have hmg:=fun z=>NC (p:=p) (z:=z) hf
    rcases Bool.eq_false_or_eq_true (ng a.s.name (p.mP a.s.proc) [] a.s.args)with c2|c2
    ·simp only [c1,c2,Bool.not_true,Bool.and_false,Bool.false_eq_true,if_false]at hR
     repeat' (first
 |simp only[go_sem,hD,gA,gB,gC,c1,c2,hmg]
 |(with_reducible refine CU (sP _) ?_)
 | (with_reducible refine aD hQ ?_;exact bx))
     refine dW 3 0 ?_ ?_ (IH (rest,k+1) ⟨g2,hR⟩ (Nat.lt_succ_self _))
     ·(simp only[go_sem,hD,gA,gB,gC,aH cH];try exact bO)
     ·(simp only[go_sem,hD,gA,gB,gC,aH cH];try exact bO)
    ·simp only [c1,c2,Bool.not_false,Bool.and_true,if_true,rL]at hR
     subst hR
     repeat' (first
 |simp only[go_sem,hD,gA,gB,gC,c1,c2,hmg]
 |(with_reducible refine CU (sP _) ?_)
 | (with_reducible refine aD hQ ?_;exact bx))
   ·simp only [c1,Bool.false_and,Bool.false_eq_true,if_false]at hR
    repeat' (first
 |simp only[go_sem,hD,gA,gB,gC,c1]
 |(with_reducible refine CU (sP _) ?_)
 | (with_reducible refine aD hQ ?_;exact bx))
    refine dW 3 0 ?_ ?_ (IH (rest,k+1) ⟨g2,hR⟩ (Nat.lt_succ_self _))
    ·(simp only[go_sem,hD,gA,gB,gC,aH cH];try exact bO)
    ·(simp only[go_sem,hD,gA,gB,gC,aH cH];try exact bO)
def Sm.aht (p:Pg) (v:Sm):Bool:=v.pb p && apM (p.mP v.proc) v.atX v.args
def apF (p:Pg):List Sm→Option Sm
 | []=>none
 |v::l=>if v.kind==4 && !(v.aht p)then some v else apF p l
abbrev aAF (m n:Nat):Prop:=∀ {nest:Int} {body:Bool} {r:Rd} {p:(List Sm×List aF)×Rd},Rd.rows m n nest body r=some p→∀ {s:St} {o:Nat},s.ah[o]? = some (rU r)→
 aE Tryz.prog Cp [.ptr o 0, .int .i64 nest, .bool body] s (.tuple [.slice .shared 13 (p.1.1.map aS), .slice .shared 1 (p.1.2.map encStr)]) ⟨s.ah.set o (rU p.2),s.ay⟩
abbrev aAG (m n:Nat):Prop:=∀ {nest:Int} {r:Rd} {p:Sm×Rd},Rd.stmt m n nest r=some p→∀ {s:St} {o:Nat},s.ah[o]? = some (rU r)→
 aE Tryz.prog Cq [.ptr o 0, .int .i64 nest] s (.agg (aS p.1)) ⟨s.ah.set o (rU p.2),s.ay⟩
abbrev auN (m n:Nat):Prop:=∀ {nest:Int} {r:Rd} {p:List Sm×Rd},Rd.block m n nest r=some p→∀ {s:St} {o:Nat},s.ah[o]? = some (rU r)→
 aE Tryz.prog Bu [.ptr o 0, .int .i64 nest] s (.slice .shared 13 (p.1.map aS)) ⟨s.ah.set o (rU p.2),s.ay⟩
abbrev atY (m n:Nat):Prop:=∀ {nest:Int} {r:Rd} {p:Sm×Rd},Rd.choice m n nest r=some p→∀ {s:St} {o:Nat},s.ah[o]? = some (rU r)→
 aE Tryz.prog Au [.ptr o 0, .int .i64 nest] s (.agg (aS p.1)) ⟨s.ah.set o (rU p.2),s.ay⟩
def rd0 (l:List pU):Rd:=⟨l,0,0,0,0⟩
def aAH (m:Nat) (text:aF):Option (Pg×Int×Int):=
 if(Aq text).2.1 != 0 then some (pg0,(Aq text).2)
 else(Rd.program m (rd0 (Aq text).1)).bind fun p=>if p.2.code != 0 then some (pg0,p.2.code,p.2.MQ)else(p.1.As).bind fun q=>some (q,0,0)
def aBE (m:Nat) (text:aF):Option (Ex×Int×Int):=
 if(Aq text).2.1 != 0 then some (qn,(Aq text).2)
 else(Rd.whole m (rd0 (Aq text).1)).bind fun x=>x.2.VL.bind fun b=>
  if b then(x.2.bad 3).bind fun r=>if !r.good then some (qn,r.code,r.MQ)else some (x.1,0,0)
  else if !x.2.good then some (qn,x.2.code,x.2.MQ)else some (x.1,0,0)
def ahu (n k:Int):Int:=if Int.tmod n k<0 then Int.tmod n k+k else Int.tmod n k
def ak4 (t:aF):Nat→aF
 | 0=> []
 |n+1=>ak4 t n++t
def two (i:Nat):aF:= [UInt8.ofNat (48+i / 10),UInt8.ofNat (48+i % 10)]
def ahv (ahead:aF):Nat→aF
 | 0=> []
 |n+1=>(if n=0 then ahv ahead n else ahv ahead n++ [44])++(ahead++ [97]++two n)
def ahw:Nat→aF
 | 0=> []
 |n+1=>ahw n++([112,114,111,99,32,112]++two n++ [40,41,123,125])
def NH (k:Int):List It→List Int
 | []=> []
 |i::l=>if k==0 ||i.s.kind==k then i.s.id::NH k l else NH k l
def aBF (l:List Int) (n:Int):Int:=match l[(ahu n l.length).toNat]? with|some x=>x|none=>0
def ab0 (id:Int):List It→Option It
 | []=>none
 |i::l=>if i.s.id==id then some i else ab0 id l
def ab1 (id:Int):List Pc→Option (It×aF)
 | []=>none
 |f::l=>match ab0 id f.flat with|some i=>some (i,f.name)|none=>ab1 id l
def it0:It:=⟨Jw,0,0,false⟩
def atZ (r:Option (It×aF)):D:=match r with
 |some (i,nm)=> .tuple [.agg (kF i), .str nm, .bool true]
 |none=> .tuple [.agg (kF it0), .str [], .bool false]
def Pg.ak5 (p:Pg) (id:Int):Sm:=match ab1 id p.procs with|some (i,_)=>i.s|none=>Jw
def dv (t:aF) (n:Int):Int:=if n > 20000 then 20001 else if(t.length:Int)≥20000 - n then 20001 else n+1+t.length
mutual
def fF:Ex→Int→Int
 |⟨_,_,name,kids⟩,n=>oE kids (dv name n)
def oE:List Ex→Int→Int
 | [],n=>n
 |x::l,n=>if n≤20000 then oE l (fF x n)else n
end
theorem nE {t:aF} {n:Int} (h0:0≤n):dv t n≤20001∧(n≤20000→n+1≤dv t n)∧0≤dv t n∧(dv t n≤20000→n+1+t.length=dv t n):=by
 unfold dv;split
 ·omega
 ·split<;>omega
theorem xN : ∀ (m:Nat) (x:Ex),x.size≤m→∀ n:Int,0≤n→fF x n≤20001∧(n≤20000→n+1≤fF x n)∧0≤fF x n∧(fF x n≤20000→(x.size:Int)+1≤2*(fF x n - n)∧x.texts):=by
 intro m
 induction m with
 |zero=>rintro⟨op,v,name,kids⟩ h;simp only[Ex.size]at h;omega
 | succ m ih=>
  rintro⟨op,v,name,kids⟩ h n h0
  simp only[Ex.size]at h
  obtain⟨t1,t2,t3,t4⟩:=nE (t:=name) h0
  have go : ∀ (l:List Ex),Ex.a7 l≤m→∀ c:Int,0≤c→c≤20001→oE l c≤20001∧c≤oE l c∧(oE l c≤20000→(Ex.a7 l:Int)≤2*(oE l c - c)∧Ex.xr l):=by
   intro l
   induction l with
   |nil=>intro _ c h0 h1;simp only[oE,Ex.a7];exact⟨h1,Int.le_refl _,fun _=>⟨by omega,trivial⟩⟩
   | cons y l WA=>
    intro hs c h0 h1
    simp only[Ex.a7]at hs ⊢
    simp only[oE]
    split
    ·rename_i hc
     obtain⟨a1,a2,a3,a4⟩:=ih y (by omega) c h0
     obtain⟨b1,b2,b3⟩:=WA (by omega) (fF y c) a3 a1
     have:=a2 hc
     refine⟨b1,by omega,fun hw=>?_⟩
     obtain⟨c1,c2⟩:=b3 hw
     obtain⟨d1,d2⟩:=a4 (by omega)
     exact⟨by omega,d2,c2⟩
    ·exact⟨h1,Int.le_refl _,fun hw=>by omega⟩
  obtain⟨g1,g2,g3⟩:=go kids (by omega) (dv name n) t3 t1
  simp only[fF,Ex.size]
  refine⟨g1,fun hn=>by have:=t2 hn;omega,by omega,fun hw=>?_⟩
  obtain⟨k1,k2⟩:=g3 hw
  have:=t4 (by omega)
  exact⟨by omega,by omega,k2⟩
theorem sm (t:aF) {n:Int} (h0:0≤n) (h1:n≤20001) (s:St):aE Tryz.prog iA [.str t, .int .i64 n] s (.int .i64 (dv t n)) s:=by
 refine aE.pure ?_ rfl rfl s
 unfold S0
 have w1:IntKind.wrap .i64 (20000 - n)=20000 - n:=eD (by omega) (by omega)
 have w2:IntKind.wrap .i64 (n+1)=n+1:=eD (by omega) (by omega)
 by_cases c:n > 20000
 ·have c1:decide (n > 20000)=true:=by simp;omega
  have e:dv t n=20001:=by simp[dv,c]
  rw[e]
  refine aE.go qw rfl fun B Q hB hQ=>?_
  have⟨hD,gA,gB,gC⟩:=cd
  repeat' (first
 |simp only[go_sem,hD,gA,gB,gC,c1,w1,w2]
 |(with_reducible refine aD hQ ?_;exact bx))
 ·have c1:decide (n > 20000)=false:=by simp;omega
  by_cases d:(t.length:Int)≥20000 - n
  ·have d1:decide ((t.length:Int)≥20000 - n)=true:=by simp;omega
   have e:dv t n=20001:=by unfold dv;rw[if_neg c,if_pos d]
   rw[e]
   refine aE.go qw rfl fun B Q hB hQ=>?_
   have⟨hD,gA,gB,gC⟩:=cd
   repeat' (first
 |simp only[go_sem,hD,gA,gB,gC,c1,d1,w1,w2]
 | (with_reducible refine aD hQ ?_;exact bx))
  ·have d1:decide ((t.length:Int)≥20000 - n)=false:=by simp;omega
   have e:dv t n=n+1+t.length:=by unfold dv;rw[if_neg c,if_neg d]
   have w3:IntKind.wrap .i64 (n+1+t.length)=n+1+t.length:=eD (by omega) (by omega)
   rw[e]
   refine aE.go qw rfl fun B Q hB hQ=>?_
   have⟨hD,gA,gB,gC⟩:=cd
   repeat' (first
 |simp only[go_sem,hD,gA,gB,gC,c1,d1,w1,w2,w3]
 |(with_reducible refine aD hQ ?_;exact bx))
theorem NK : ∀ (m:Nat) (x:Ex),x.size≤m→∀ {n:Int},0≤n→n≤20000→∀ s:St,aE Tryz.prog kQ [.agg (bQ x), .int .i64 n] s (.int .i64 (fF x n)) s:=by
 intro m
 induction m with
 |zero=>rintro⟨op,v,name,kids⟩ h;simp only[Ex.size]at h;omega
 |succ m ih=>
  rintro⟨op,v,name,kids⟩ dO n h0 h1 s
  refine aE.pure ?_ (by simp[D.bK,D.ok,jN]) rfl s
  simp only[Ex.size]at dO
  have hk : ∀ y∈kids,∀ {n:Int},0≤n→n≤20000→∀ s:St,aE Tryz.prog kQ [.agg (bQ y), .int .i64 n] s (.int .i64 (fF y n)) s:=fun y hy=>ih y (by have:=Ex.da hy;omega)
  have ht:=fun s=>sm name h0 (by omega) s
  obtain⟨t1,t2,t3,t4⟩:=nE (t:=name) h0
  unfold S0
  generalize h:fF ⟨op,v,name,kids⟩ n=p
  simp only[fF]at h
  refine aE.go Dq rfl fun B Q hB hQ=>?_
  have⟨hD,gA,gB,gC⟩:=cd
  repeat' (first
 |simp only[go_sem,hD,gA,gB,gC]
 |(with_reducible refine CU (ht _) ?_)
 |(with_reducible first|refine bg fun hc=>?_|refine bh fun hc=>?_|refine bj (fun hc=>?_) fun hc=>?_)<;>(try simp only[hc,bs,↓reduceIte]at h)<;>try simp only[hc]
 | (with_reducible refine aD hQ ?_;exact fM))
  refine fj 1 0 (bl.ind (ι:=List Ex×Nat×Int) (fun i=>kids.drop i.2.1=i.1∧oE i.1 i.2.2=p∧(i.2.1:Int)≤i.2.2∧i.2.2≤20001) (fun i=>i.1.length)
   (fun i=> [(1, .int .i64 i.2.2),(2, .ptr 0 0),(5, .int .i64 (i.2.1:Int))]) (fun i=>⟨[bQ ⟨op,v,name,kids⟩],[]⟩) ?_ (kids,0,dv name n) ⟨rfl,h,t3,t1⟩)
  rintro⟨rest,k,c⟩ ⟨g1,h,g3,g4⟩ IH
  dsimp only at g1 h g3 g4
  cases rest with
  |nil=>
   have hD:=drop_nil g1
   simp only[oE]at h
   repeat' (first
 |simp only[go_sem,hD,gA,gB,gC]
 |(with_reducible first|refine bg fun hc=>?_|refine bh fun hc=>?_|refine bj (fun hc=>?_) fun hc=>?_)<;>(try simp only[hc,bs,↓reduceIte]at h)<;>try simp only[hc]
 | (with_reducible refine aD hQ ?_;exact fM))
  | cons y rest=>
   obtain⟨gA,g2,hD,g5⟩:=drop_cons g1
   simp only[oE]at h
   by_cases hc:c≤20000
   ·have c1:decide (c≤20000)=true:=by simp;omega
    have hy:=fun s=>hk y (List.mem_of_getElem? gA) (n:=c) (by omega) hc s
    obtain⟨a1,a2,a3,a4⟩:=xN _ y (Nat.le_refl _) c (by omega)
    have:=a2 hc
    have w3:IntKind.wrap .i64 ((k:Int)+1)=((k+1:Nat):Int):=by rw[eD]<;>omega
    rw[if_pos hc]at h
    repeat' (first
 |simp only[go_sem,hD,gA,gB,gC,c1,w3]
 |(with_reducible refine CU (hy _) ?_)
 |(with_reducible first|refine bg fun hc=>?_|refine bh fun hc=>?_|refine bj (fun hc=>?_) fun hc=>?_)<;>(try simp only[hc,bs,↓reduceIte]at h)<;>try simp only[hc]
 | (with_reducible refine aD hQ ?_;(try cases h);simp only [aT,aV,bD,bE,go_sem,hD,gA,gB,gC,c1,w3];try exact bX))
    refine fj 1 0 (IH (rest,k+1,fF y c) ⟨g2,h,by dsimp only;omega,a1⟩ (Nat.lt_succ_self _))
   ·have c1:decide (c≤20000)=false:=by simp;omega
    rw[if_neg hc]at h
    repeat' (first
 |simp only[go_sem,hD,gA,gB,gC,c1]
 |(with_reducible first|refine bg fun hc=>?_|refine bh fun hc=>?_|refine bj (fun hc=>?_) fun hc=>?_)<;>(try simp only[hc,bs,↓reduceIte]at h)<;>try simp only[hc]
 |(with_reducible refine aD hQ ?_;(try cases h);simp only[aT,aV,bD,bE,go_sem,hD,gA,gB,gC,c1];try exact bX))
def ey:List aF→Int→Int
 | [],n=>n
 |t::l,n=>if n≤20000 then ey l (dv t n)else n
def jx:List Ar→Int→Int
 | [],n=>n
 |a::l,n=>if n≤20000 then jx l (dv a.name (fF a.x n))else n
def lD:List Pm→Int→Int
 | [],n=>n
 |a::l,n=>if n≤20000 then lD l (dv a.name n)else n
mutual
def tG:Sm→Int→Int
 |⟨_,_,labels,name,proc,x,_,args,aM,aL⟩,n=>gj aL (gj aM (jx args (dv proc (dv name (ey labels (fF x n))))))
def gj:List Sm→Int→Int
 | [],n=>n
 |s::l,n=>if n≤20000 then gj l (tG s n)else n
end
theorem WB (s:Sm) (n:Int):tG s n=gj s.aL (gj s.aM (jx s.args (dv s.proc (dv s.name (ey s.labels (fF s.x n)))))):=by cases s;simp only[tG]
def vF (f:Pc) (n:Int):Int:=gj f.body (lD f.params (ey f.fin (ey f.vars (dv f.name n))))
def oG:List Pc→Int→Int
 | [],n=>n
 |f::l,n=>if n≤20000 then oG l (vF f n)else n
def Pg.Eo (p:Pg):Int:=oG p.procs (ey p.globals 0)
theorem lZ : ∀ (l:List aF) {n:Int},0≤n→n≤20001→ey l n≤20001∧n≤ey l n∧(ey l n≤20000→n+l.length≤ey l n∧∀ t∈l,t.length<4611686018427387904)
 | [],n,h0,h1=>by simp only[ey];exact⟨h1,Int.le_refl _,fun _=>⟨by simp,by simp⟩⟩
 | t::l,n,h0,h1=>by
  simp only[ey]
  split
  ·rename_i hc
   obtain⟨a1,a2,a3,a4⟩:=nE (t:=t) h0
   obtain⟨b1,b2,b3⟩:=lZ l (n:=dv t n) a3 a1
   have:=a2 hc
   refine⟨b1,by omega,fun hw=>?_⟩
   obtain⟨c1,c2⟩:=b3 hw
   have:=a4 (by omega)
   refine⟨by simp only[List.length_cons];omega,fun s m=>?_⟩
   rcases List.mem_cons.1 m with rfl|m
   ·omega
   ·exact c2 s m
  ·exact⟨h1,Int.le_refl _,fun hw=>by omega⟩
theorem BP : ∀ (l:List Pm) {n:Int},0≤n→n≤20001→lD l n≤20001∧n≤lD l n∧(lD l n≤20000→n+l.length≤lD l n∧∀ t∈l,t.name.length<4611686018427387904)
 | [],n,h0,h1=>by simp only[lD];exact⟨h1,Int.le_refl _,fun _=>⟨by simp,by simp⟩⟩
 | t::l,n,h0,h1=>by
  simp only[lD]
  split
  ·rename_i hc
   obtain⟨a1,a2,a3,a4⟩:=nE (t:=t.name) h0
   obtain⟨b1,b2,b3⟩:=BP l (n:=dv t.name n) a3 a1
   have:=a2 hc
   refine⟨b1,by omega,fun hw=>?_⟩
   obtain⟨c1,c2⟩:=b3 hw
   have:=a4 (by omega)
   refine⟨by simp only[List.length_cons];omega,fun s m=>?_⟩
   rcases List.mem_cons.1 m with rfl|m
   ·omega
   ·exact c2 s m
  ·exact⟨h1,Int.le_refl _,fun hw=>by omega⟩
theorem BQ : ∀ (l:List Ar) {n:Int},0≤n→n≤20001→jx l n≤20001∧n≤jx l n∧
 (jx l n≤20000→(Ar.a7 l:Int)≤2*(jx l n - n)∧∀ a∈l,a.x.size<4611686018427387904∧a.x.texts∧a.name.length<4611686018427387904)
 | [],n,h0,h1=>by simp only[jx];exact⟨h1,Int.le_refl _,fun _=>⟨by simp[Ar.a7],by simp⟩⟩
 | a::l,n,h0,h1=>by
  simp only[jx]
  split
  ·rename_i hc
   obtain⟨a1,a2,a3,a4⟩:=xN _ a.x (Nat.le_refl _) n h0
   obtain⟨e1,e2,e3,e4⟩:=nE (t:=a.name) a3
   obtain⟨b1,b2,b3⟩:=BQ l (n:=dv a.name (fF a.x n)) e3 e1
   have:=a2 hc
   have:fF a.x n≤dv a.name (fF a.x n):=by
    by_cases h:fF a.x n≤20000
    ·have:=e2 h;omega
    ·have:dv a.name (fF a.x n)=20001:=by unfold dv;rw [if_pos (by omega)]
     omega
   refine⟨b1,by omega,fun hw=>?_⟩
   obtain⟨c1,c2⟩:=b3 hw
   have:=e4 (by omega)
   obtain⟨d1,d2⟩:=a4 (by omega)
   refine⟨by simp only[Ar.a7];omega,fun s m=>?_⟩
   rcases List.mem_cons.1 m with rfl|m
   ·exact⟨by omega,d2,by omega⟩
   ·exact c2 s m
  ·exact⟨h1,Int.le_refl _,fun hw=>by omega⟩
theorem mh {t:aF} {n:Int} (h0:0≤n) (h1:n≤20001):n≤dv t n∧dv t n≤20001∧(dv t n≤20000→n+1≤dv t n∧t.length<4611686018427387904):=by
 obtain⟨e1,e2,e3,e4⟩:=nE (t:=t) h0
 by_cases h:n≤20000
 ·have:=e2 h
  exact⟨by omega,e1,fun hw=>⟨by omega,by have:=e4 hw;omega⟩⟩
 ·have:dv t n=20001:=by unfold dv;rw [if_pos (by omega)]
  exact⟨by omega,e1,fun hw=>by omega⟩
mutual
theorem J7 : ∀ (s:Sm) {n:Int},0≤n→n≤20000→tG s n≤20001∧n+1≤tG s n∧(tG s n≤20000→(s.size:Int)+1≤2*(tG s n - n)∧s.yD)
 |⟨id,kind,labels,name,proc,x,has,args,aM,aL⟩,n,h0,h1=>by
  obtain⟨a1,a2,a3,a4⟩:=xN _ x (Nat.le_refl _) n h0
  have a2:=a2 h1
  obtain⟨b1,b2,b3⟩:=lZ labels a3 a1
  obtain⟨c1,c2,c3⟩:=mh (t:=name) (n:=ey labels (fF x n)) (by omega) b1
  obtain⟨d1,d2,d3⟩:=mh (t:=proc) (n:=dv name (ey labels (fF x n))) (by omega) c2
  obtain⟨e1,e2,e3⟩:=BQ args (n:=dv proc (dv name (ey labels (fF x n)))) (by omega) d2
  obtain⟨f1,f2,f3⟩:=tH aM (n:=jx args (dv proc (dv name (ey labels (fF x n))))) (by omega) e1
  obtain⟨g1,g2,g3⟩:=tH aL (n:=gj aM (jx args (dv proc (dv name (ey labels (fF x n)))))) (by omega) f1
  simp only[tG,Sm.size]
  refine⟨g1,by omega,fun hw=>?_⟩
  obtain⟨g4,g5⟩:=g3 hw
  obtain⟨f4,f5⟩:=f3 (by omega)
  obtain⟨e4,e5⟩:=e3 (by omega)
  obtain⟨d4,d5⟩:=d3 (by omega)
  obtain⟨c4,c5⟩:=c3 (by omega)
  obtain⟨b4,b5⟩:=b3 (by omega)
  obtain⟨a5,a6⟩:=a4 (by omega)
  have:=Ar.dJ args
  refine⟨by omega, ?_⟩
  rw[FY]
  exact⟨⟨b5,by dsimp only;omega,c5,d5,by dsimp only;omega,a6,by dsimp only;omega,e5⟩,f5,g5⟩
theorem tH : ∀ (l:List Sm) {n:Int},0≤n→n≤20001→gj l n≤20001∧n≤gj l n∧(gj l n≤20000→(Sm.a7 l:Int)≤2*(gj l n - n)∧Sm.ly l)
 | [],n,h0,h1=>by simp only[gj];exact⟨h1,Int.le_refl _,fun _=>⟨by simp[Sm.a7],by simp only[Sm.ly]⟩⟩
 | s::l,n,h0,h1=>by
  simp only[gj]
  split
  ·rename_i hc
   obtain⟨a1,a2,a3⟩:=J7 s h0 hc
   obtain⟨b1,b2,b3⟩:=tH l (n:=tG s n) (by omega) a1
   refine⟨b1,by omega,fun hw=>?_⟩
   obtain⟨c1,c2⟩:=b3 hw
   obtain⟨d1,d2⟩:=a3 (by omega)
   exact⟨by simp only[Sm.a7];omega,d2,c2⟩
  ·exact⟨h1,Int.le_refl _,fun hw=>by omega⟩
end
theorem J8 (f:Pc) {n:Int} (h0:0≤n) (h1:n≤20000):vF f n≤20001∧n+1≤vF f n∧(vF f n≤20000→(f.size:Int)+1≤2*(vF f n - n)∧
 (f.name.length<4611686018427387904∧(∀ t∈f.vars,t.length<4611686018427387904)∧(∀ t∈f.fin,t.length<4611686018427387904)∧∀ a∈f.params,a.name.length<4611686018427387904)∧Sm.ly f.body):=by
 obtain⟨c1,c2,c3⟩:=mh (t:=f.name) h0 (by omega:n≤20001)
 have c4:=(nE (t:=f.name) h0).2.1 h1
 obtain⟨d1,d2,d3⟩:=lZ f.vars (n:=dv f.name n) (by omega) c2
 obtain⟨e1,e2,e3⟩:=lZ f.fin (n:=ey f.vars (dv f.name n)) (by omega) d1
 obtain⟨g1,g2,g3⟩:=BP f.params (n:=ey f.fin (ey f.vars (dv f.name n))) (by omega) e1
 obtain⟨k1,k2,k3⟩:=tH f.body (n:=lD f.params (ey f.fin (ey f.vars (dv f.name n)))) (by omega) g1
 unfold vF Pc.size
 refine⟨k1,by omega,fun hw=>?_⟩
 obtain⟨k4,k5⟩:=k3 hw
 obtain⟨g4,g5⟩:=g3 (by omega)
 obtain⟨e4,e5⟩:=e3 (by omega)
 obtain⟨d4,d5⟩:=d3 (by omega)
 obtain⟨_,c5⟩:=c3 (by omega)
 exact⟨by omega,⟨c5,d5,e5,g5⟩,k5⟩
theorem HH : ∀ (l:List Pc) {n:Int},0≤n→n≤20001→oG l n≤20001∧n≤oG l n∧(oG l n≤20000→(Pc.a7 l:Int)≤2*(oG l n - n)∧∀ f∈l,
 (f.name.length<4611686018427387904∧(∀ t∈f.vars,t.length<4611686018427387904)∧(∀ t∈f.fin,t.length<4611686018427387904)∧∀ a∈f.params,a.name.length<4611686018427387904)∧Sm.ly f.body)
 | [],n,h0,h1=>by simp only[oG];exact⟨h1,Int.le_refl _,fun _=>⟨by simp[Pc.a7],by simp⟩⟩
 | f::l,n,h0,h1=>by
  simp only[oG]
  split
  ·rename_i hc
   obtain⟨a1,a2,a3⟩:=J8 f h0 hc
   obtain⟨b1,b2,b3⟩:=HH l (n:=vF f n) (by omega) a1
   refine⟨b1,by omega,fun hw=>?_⟩
   obtain⟨c1,c2⟩:=b3 hw
   obtain⟨d1,d2⟩:=a3 (by omega)
   refine⟨by simp only[Pc.a7];omega,fun s m=>?_⟩
   rcases List.mem_cons.1 m with rfl|m
   ·exact d2
   ·exact c2 s m
  ·exact⟨h1,Int.le_refl _,fun hw=>by omega⟩
theorem Tv {p:Pg} (h:p.Eo≤20000):p.size≤40001∧p.LF:=by
 unfold Pg.Eo at h
 obtain⟨a1,a2,a3⟩:=lZ p.globals (n:=0) (by omega) (by omega)
 obtain⟨b1,b2,b3⟩:=HH p.procs (n:=ey p.globals 0) (by omega) a1
 obtain⟨c1,c2⟩:=b3 h
 obtain⟨d1,d2⟩:=a3 (by omega)
 have:p.size≤40001:=by unfold Pg.size;omega
 exact⟨this,by omega,d2,fun f m=>(c2 f m).1,fun f m=>(c2 f m).2⟩
theorem yR {l:List aF} {n:Int} (h0:0≤n) (h1:n≤20001) (s:St):aE Tryz.prog kx [.slice .shared 1 (l.map encStr), .int .i64 n] s (.int .i64 (ey l n)) s:=by
 refine aE.pure ?_ (by simp[D.bK,D.ok,fe,Tag.ok]) rfl s
 unfold S0
 generalize h:ey l n=p
 refine aE.go Cr rfl fun B Q hB hQ=>?_
 have⟨hD,gA,gB,gC⟩:=cd
 repeat' (first
 |simp only[go_sem,hD,gA,gB,gC]
 |(with_reducible refine aD hQ ?_;exact bx))
 refine fj 0 0 (bl.ind (ι:=List aF×Nat×Int) (fun i=>l.drop i.2.1=i.1∧ey i.1 i.2.2=p∧(i.2.1:Int)≤i.2.2∧i.2.2≤20001) (fun i=>i.1.length)
  (fun i=> [(0, .slice .shared 1 (l.map encStr)),(1, .int .i64 i.2.2),(5, .int .i64 (i.2.1:Int))]) (fun i=>⟨[],[]⟩) ?_ (l,0,n) ⟨rfl,h,h0,h1⟩)
 rintro⟨rest,k,c⟩ ⟨g1,h,g3,g4⟩ IH
 dsimp only at g1 h g3 g4
 cases rest with
 |nil=>
  have hD:=drop_nil g1
  simp only[ey]at h
  subst h
  repeat' (first
 |simp only[go_sem,hD,gA,gB,gC]
 |(with_reducible refine aD hQ ?_;exact bx))
 | cons y rest=>
  obtain⟨gA,g2,hD,g5⟩:=drop_cons g1
  simp only[ey]at h
  by_cases hc:c≤20000
  ·have c1:decide (c≤20000)=true:=by simp;omega
   have hy:=fun s=>sm y (n:=c) (by omega) g4 s
   obtain⟨a1,a2,a3,a4⟩:=nE (t:=y) (n:=c) (by omega)
   have:=a2 hc
   have w3:IntKind.wrap .i64 ((k:Int)+1)=((k+1:Nat):Int):=by rw[eD]<;>omega
   rw[if_pos hc]at h
   repeat' (first
 |simp only[go_sem,hD,gA,gB,gC,c1,w3]
 |(with_reducible refine CU (hy _) ?_)
 | (with_reducible refine aD hQ ?_;exact bx))
   refine fj 0 0 (IH (rest,k+1,dv y c) ⟨g2,h,by dsimp only;omega,a1⟩ (Nat.lt_succ_self _))
  ·have c1:decide (c≤20000)=false:=by simp;omega
   rw[if_neg hc]at h
   subst h
   repeat' (first
 |simp only[go_sem,hD,gA,gB,gC,c1]
 |(with_reducible refine aD hQ ?_;exact bx))
theorem WC : ∀ (m:Nat) (l:List Sm),Sm.a7 l≤m→∀ {n:Int},0≤n→n≤20001→∀ s:St,aE Tryz.prog lN [.slice .shared 13 (l.map aS), .int .i64 n] s (.int .i64 (gj l n)) s:=by
 intro m
 induction m with
 | zero=>
  intro l h n h0 h1 s
  cases l with
  |nil=>
   have z:decide ((0:Int)<0)=false:=rfl
   refine aE.pure ?_ (by simp[D.bK,D.ok,D.jd,Tag.ok]) rfl s
   unfold S0
   simp only[gj]
   refine aE.go tZ rfl fun B Q hB hQ=>?_
   have⟨hD,gA,gB,gC⟩:=cd
   repeat' (first
 |simp only[go_sem,hD,gA,gB,gC,z]
 |(with_reducible refine bl.jV ?_)
 |(with_reducible refine aD hQ ?_;exact bx))
  |cons s l=>simp only[Sm.a7]at h;omega
 |succ m ih=>
  intro l h n h0 h1 s
  refine aE.pure ?_ (by simp[D.bK,D.ok,nz,Tag.ok]) rfl s
  unfold S0
  generalize hp:gj l n=p
  refine aE.go tZ rfl fun B Q hB hQ=>?_
  have⟨hD,gA,gB,gC⟩:=cd
  repeat' (first
 |simp only[go_sem,hD,gA,gB,gC]
 | (with_reducible refine aD hQ ?_;exact bx))
  refine fj 0 0 (bl.ind (ι:=List Sm×Nat×Int) (fun i=>l.drop i.2.1=i.1∧gj i.1 i.2.2=p∧(i.2.1:Int)≤i.2.2∧i.2.2≤20001) (fun i=>i.1.length)
   (fun i=> [(0, .slice .shared 13 (l.map aS)),(1, .int .i64 i.2.2),(5, .int .i64 (i.2.1:Int))]) (fun i=>⟨[],[]⟩) ?_ (l,0,n) ⟨rfl,hp,h0,h1⟩)
  rintro⟨rest,k,c⟩ ⟨g1,hp,g3,g4⟩ IH
  dsimp only at g1 hp g3 g4
  cases rest with
  |nil=>
   have hD:=drop_nil g1
   simp only[gj]at hp
   subst hp
   repeat' (first
 |simp only[go_sem,hD,gA,gB,gC]
 | (with_reducible refine aD hQ ?_;exact bx))
  | cons y rest=>
   obtain⟨gA,g2,hD,g5⟩:=drop_cons g1
   simp only[gj]at hp
   by_cases hc:c≤20000
   ·have c1:decide (c≤20000)=true:=by simp;omega
    have jf:=List.mem_of_getElem? gA
    have dO:=Sm.da jf
    have XS:s.ah.length≤s.ah.length∧Sm.a7 y.aM<y.size∧Sm.a7 y.aL<y.size:=by cases y;simp only[Sm.size];omega
    have w3:IntKind.wrap .i64 ((k:Int)+1)=((k+1:Nat):Int):=by rw[eD]<;>omega
    rw[if_pos hc]at hp
    obtain⟨a1,a2,a3,a4⟩:=xN _ y.x (Nat.le_refl _) c (by omega)
    have a2:=a2 hc
    obtain⟨b1,b2,b3⟩:=lZ y.labels a3 a1
    obtain⟨c1',c2,c3⟩:=mh (t:=y.name) (n:=ey y.labels (fF y.x c)) (by omega) b1
    obtain⟨d1,d2,d3⟩:=mh (t:=y.proc) (n:=dv y.name (ey y.labels (fF y.x c))) (by omega) c2
    have eE:=fun s=>NK _ y.x (Nat.le_refl _) (n:=c) (by omega) hc s
    have eL:=fun s=>yR (l:=y.labels) (n:=fF y.x c) (by omega) a1 s
    have eN:=fun s=>sm y.name (n:=ey y.labels (fF y.x c)) (by omega) b1 s
    have eP:=fun s=>sm y.proc (n:=dv y.name (ey y.labels (fF y.x c))) (by omega) c2 s
    obtain⟨r1,r2,r3⟩:=J7 y (n:=c) (by omega) hc
    rw[WB]at hp r1 r2
    generalize hC:dv y.proc (dv y.name (ey y.labels (fF y.x c)))=C at *
    obtain⟨s1,s2,s3⟩:=BQ y.args (n:=C) (by omega) d2
    obtain⟨t1,t2,t3⟩:=tH y.aM (n:=jx y.args C) (by omega) s1
    have eT:=fun s=>ih y.aM (by omega) (n:=jx y.args C) (by omega) s1 s
    have eS:=fun s=>ih y.aL (by omega) (n:=gj y.aM (jx y.args C)) (by omega) t1 s
    generalize hW:jx y.args C=W at *
    repeat' (first
 |simp only[go_sem,hD,gA,gB,gC,c1,w3]
 |(with_reducible refine CU (eE _) ?_)
 |(with_reducible refine CU (eL _) ?_)
 |(with_reducible refine CU (eN _) ?_)
 |(with_reducible refine CU (eP _) ?_)
 | (with_reducible refine aD hQ ?_;exact bx))
    refine fj 1 0 (bl.ind (ι:=List Ar×Nat×Int) (fun i=>y.args.drop i.2.1=i.1∧jx i.1 i.2.2=W∧(i.2.1:Int)≤i.2.2∧i.2.2≤20001) (fun i=>i.1.length)
     (fun i=> [(0, .slice .shared 13 (l.map aS)),(1, .int .i64 i.2.2),(5, .int .i64 (k:Int)),(6, .ptr 0 0),(7, .int .i64 (i.2.1:Int))]) (fun i=>⟨[aS y],[]⟩) ?_ (y.args,0,C) ⟨rfl,hW,by dsimp only;omega,d2⟩)
    rintro⟨ars,j,e⟩ ⟨k1,hw,k3,k4⟩ sD
    dsimp only at k1 hw k3 k4
    cases ars with
    |nil=>
     have hD:=drop_nil k1
     simp only[jx]at hw
     subst hw
     repeat' (first
 |simp only[go_sem,hD,gA,gB,gC,w3]
 |(with_reducible refine CU (eT _) ?_)
 |(with_reducible refine CU (eS _) ?_)
 | (with_reducible refine aD hQ ?_;exact bx))
     refine fj 0 0 (IH (rest,k+1,gj y.aL (gj y.aM e)) ⟨g2,hp,by dsimp only;omega,r1⟩ (Nat.lt_succ_self _))
    | cons a ars=>
     obtain⟨gA,k2,hD,k5⟩:=drop_cons k1
     simp only[jx]at hw
     by_cases he:e≤20000
     ·have e1:decide (e≤20000)=true:=by simp;omega
      have w4:IntKind.wrap .i64 ((j:Int)+1)=((j+1:Nat):Int):=by rw[eD]<;>omega
      rw[if_pos he]at hw
      obtain⟨u1,u2,u3,u4⟩:=xN _ a.x (Nat.le_refl _) e (by omega)
      have u2:=u2 he
      obtain⟨v1,v2,v3⟩:=mh (t:=a.name) (n:=fF a.x e) u3 u1
      have eX:=fun s=>NK _ a.x (Nat.le_refl _) (n:=e) (by omega) he s
      have eM:=fun s=>sm a.name (n:=fF a.x e) u3 u1 s
      repeat' (first
 |simp only[go_sem,hD,gA,gB,gC,e1,w4]
 |(with_reducible refine CU (eX _) ?_)
 |(with_reducible refine CU (eM _) ?_)
 |(with_reducible refine aD hQ ?_;exact bx))
      refine fj 1 0 (sD (ars,j+1,dv a.name (fF a.x e)) ⟨k2,hw,by dsimp only;omega,v2⟩ (Nat.lt_succ_self _))
     ·have e1:decide (e≤20000)=false:=by simp;omega
      rw[if_neg he]at hw
      subst hw
      repeat' (first
 |simp only[go_sem,hD,gA,gB,gC,e1,w3]
 |(with_reducible refine CU (eT _) ?_)
 |(with_reducible refine CU (eS _) ?_)
 | (with_reducible refine aD hQ ?_;exact bx))
      refine fj 0 0 (IH (rest,k+1,gj y.aL (gj y.aM e)) ⟨g2,hp,by dsimp only;omega,r1⟩ (Nat.lt_succ_self _))
   ·have c1:decide (c≤20000)=false:=by simp;omega
    rw[if_neg hc]at hp
    subst hp
    repeat' (first
 |simp only[go_sem,hD,gA,gB,gC,c1]
 |(with_reducible refine aD hQ ?_;exact bx))
theorem ahA (p:Pg) (s:St):aE Tryz.prog zn [.agg (bJ p)] s (.bool (decide (p.Eo≤20000))) s:=by
 refine aE.pure ?_ (by simp only[D.bK,D.ok,jh];rfl) rfl s
 unfold S0
 generalize hp:p.Eo=W
 unfold Pg.Eo at hp
 obtain⟨a1,a2,a3⟩:=lZ p.globals (n:=0) (by omega) (by omega)
 have eG:=fun s=>yR (l:=p.globals) (n:=0) (by omega) (by omega) s
 refine aE.go Kx rfl fun B Q hB hQ=>?_
 have⟨hD,gA,gB,gC⟩:=cd
 repeat' (first
 |simp only[go_sem,hD,gA,gB,gC]
 |(with_reducible refine CU (eG _) ?_)
 |(with_reducible refine aD hQ ?_;exact bx))
 refine fj 1 0 (bl.ind (ι:=List Pc×Nat×Int) (fun i=>p.procs.drop i.2.1=i.1∧oG i.1 i.2.2=W∧(i.2.1:Int)≤i.2.2∧i.2.2≤20001) (fun i=>i.1.length)
  (fun i=> [(1, .ptr 0 0),(3, .int .i64 i.2.2),(4, .int .i64 (i.2.1:Int))]) (fun i=>⟨[bJ p],[]⟩) ?_ (p.procs,0,ey p.globals 0) ⟨rfl,hp,a2,a1⟩)
 rintro⟨rest,k,c⟩ ⟨g1,hp,g3,g4⟩ IH
 dsimp only at g1 hp g3 g4
 cases rest with
 |nil=>
  have hD:=drop_nil g1
  simp only[oG]at hp
  subst hp
  repeat' (first
 |simp only[go_sem,hD,gA,gB,gC]
 |(with_reducible refine aD hQ ?_;exact bx))
 | cons f rest=>
  obtain⟨gA,g2,hD,g5⟩:=drop_cons g1
  simp only[oG]at hp
  by_cases hc:c≤20000
  ·have c1:decide (c≤20000)=true:=by simp;omega
   have w3:IntKind.wrap .i64 ((k:Int)+1)=((k+1:Nat):Int):=by rw[eD]<;>omega
   rw[if_pos hc]at hp
   obtain⟨r1,r2,r3⟩:=J8 f (n:=c) (by omega) hc
   unfold vF at hp r1 r2
   obtain⟨c1',c2,c3⟩:=mh (t:=f.name) (n:=c) (by omega) g4
   obtain⟨d1,d2,d3⟩:=lZ f.vars (n:=dv f.name c) (by omega) c2
   obtain⟨e1,e2,e3⟩:=lZ f.fin (n:=ey f.vars (dv f.name c)) (by omega) d1
   have eN:=fun s=>sm f.name (n:=c) (by omega) g4 s
   have eV:=fun s=>yR (l:=f.vars) (n:=dv f.name c) (by omega) c2 s
   have eF:=fun s=>yR (l:=f.fin) (n:=ey f.vars (dv f.name c)) (by omega) d1 s
   generalize hC:ey f.fin (ey f.vars (dv f.name c))=C at *
   obtain⟨s1,s2,s3⟩:=BP f.params (n:=C) (by omega) e1
   have eT:=fun s=>WC _ f.body (Nat.le_refl _) (n:=lD f.params C) (by omega) s1 s
   generalize hM:lD f.params C=M at *
   repeat' (first
 |simp only[go_sem,hD,gA,gB,gC,c1,w3]
 |(with_reducible refine CU (eN _) ?_)
 |(with_reducible refine CU (eV _) ?_)
 |(with_reducible refine CU (eF _) ?_)
 | (with_reducible refine aD hQ ?_;exact bx))
   refine fj 2 0 (bl.ind (ι:=List Pm×Nat×Int) (fun i=>f.params.drop i.2.1=i.1∧lD i.1 i.2.2=M∧(i.2.1:Int)≤i.2.2∧i.2.2≤20001) (fun i=>i.1.length)
    (fun i=> [(1, .ptr 0 0),(3, .int .i64 i.2.2),(4, .int .i64 (k:Int)),(5, .ptr 1 0),(6, .int .i64 (i.2.1:Int))]) (fun i=>⟨[bJ p,bG f],[]⟩) ?_ (f.params,0,C) ⟨rfl,hM,by dsimp only;omega,e1⟩)
   rintro⟨ms,j,e⟩ ⟨k1,hw,k3,k4⟩ sD
   dsimp only at k1 hw k3 k4
   cases ms with
   |nil=>
    have hD:=drop_nil k1
    simp only[lD]at hw
    subst hw
    repeat' (first
 |simp only[go_sem,hD,gA,gB,gC,w3]
 |(with_reducible refine CU (eT _) ?_)
 | (with_reducible refine aD hQ ?_;exact bx))
    refine fj 1 0 (IH (rest,k+1,gj f.body e) ⟨g2,hp,by dsimp only;omega,r1⟩ (Nat.lt_succ_self _))
   | cons a ms=>
    obtain⟨gA,k2,hD,k5⟩:=drop_cons k1
    simp only[lD]at hw
    by_cases he:e≤20000
    ·have e1:decide (e≤20000)=true:=by simp;omega
     have w4:IntKind.wrap .i64 ((j:Int)+1)=((j+1:Nat):Int):=by rw[eD]<;>omega
     rw[if_pos he]at hw
     obtain⟨v1,v2,v3⟩:=mh (t:=a.name) (n:=e) (by omega) k4
     have v4:=(nE (t:=a.name) (n:=e) (by omega)).2.1 he
     have eM:=fun s=>sm a.name (n:=e) (by omega) k4 s
     repeat' (first
 |simp only[go_sem,hD,gA,gB,gC,e1,w4]
 |(with_reducible refine CU (eM _) ?_)
 | (with_reducible refine aD hQ ?_;exact bx))
     refine fj 2 0 (sD (ms,j+1,dv a.name e) ⟨k2,hw,by dsimp only;omega,v2⟩ (Nat.lt_succ_self _))
    ·have e1:decide (e≤20000)=false:=by simp;omega
     rw[if_neg he]at hw
     subst hw
     repeat' (first
 |simp only[go_sem,hD,gA,gB,gC,e1,w3]
 |(with_reducible refine CU (eT _) ?_)
 |(with_reducible first|refine bg fun hc=>?_|refine bh fun hc=>?_|refine bj (fun hc=>?_) fun hc=>?_)<;>(try simp only[hc,bs,↓reduceIte]at h)<;>try simp only[hc]
 | (with_reducible refine aD hQ ?_;simp only [aT,aV,bD,bE,go_sem,hD,gA,gB,gC,e1,w3];try exact bX))
     refine fj 1 0 (IH (rest,k+1,gj f.body e) ⟨g2,hp,by dsimp only;omega,r1⟩ (Nat.lt_succ_self _))
  ·have c1:decide (c≤20000)=false:=by simp;omega
   rw[if_neg hc]at hp
   subst hp
   repeat' (first
 |simp only[go_sem,hD,gA,gB,gC,c1]
 |(with_reducible first|refine bg fun hc=>?_|refine bh fun hc=>?_|refine bj (fun hc=>?_) fun hc=>?_)<;>(try simp only[hc,bs,↓reduceIte]at h)<;>try simp only[hc]
 |(with_reducible refine aD hQ ?_;simp only[aT,aV,bD,bE,go_sem,hD,gA,gB,gC,c1];try exact bX))
def ahB:List aF→List aF→Bool
 | [],_=>true
 |_::_,[]=>true
 |x::l,y::l'=>if !(x==y)then false else ahB l l'
def eqT (l l':List aF):Bool:=if(l.length:Int) != (l'.length:Int)then false else ahB l l'
def Ar.rh:List Ar→List Ar→Bool
 | [],_=>true
 |_::_,[]=>true
 |a::l,b::l'=>if !(a.ref==b.ref) || !(a.name==b.name) || !(Ex.beq a.x b.x)then false else Ar.rh l l'
mutual
def Sm.beq:Sm→Sm→Bool
 |⟨id,kind,labels,name,proc,x,has,args,aM,aL⟩,⟨id',ak7,adI,SW,wV,x',at4,GO,ahC,ahD⟩=>
  if id != id' ||kind != ak7 || !(name==SW) || !(proc==wV) || !(has==at4) || !(eqT labels adI) || !(Ex.beq x x') ||(args.length:Int) != (GO.length:Int)then false
  else if !(Ar.rh args GO)then false
  else if(if(aM.length:Int) != (ahC.length:Int)then false else Sm.rh aM ahC)then(if(aL.length:Int) != (ahD.length:Int)then false else Sm.rh aL ahD)else false
def Sm.rh:List Sm→List Sm→Bool
 | [],_=>true
 |_::_,[]=>true
 |s::l,t::l'=>if !(Sm.beq s t)then false else Sm.rh l l'
end
def Sm.ahE (l l':List Sm):Bool:=if(l.length:Int) != (l'.length:Int)then false else Sm.rh l l'
def Pm.rh:List Pm→List Pm→Bool
 | [],_=>true
 |_::_,[]=>true
 |a::l,b::l'=>if !((a.name==b.name) && (a.ref==b.ref))then false else Pm.rh l l'
def Pc.rh:List Pc→List Pc→Bool
 | [],_=>true
 |_::_,[]=>true
 |f::l,g::l'=>
  if !(f.name==g.name) ||(f.params.length:Int) != (g.params.length:Int) || !(eqT f.vars g.vars) || !(eqT f.fin g.fin) || !(Sm.ahE f.body g.body)then false
  else if !(Pm.rh f.params g.params)then false else Pc.rh l l'
def Pg.beq (p q:Pg):Bool:=if !(eqT p.globals q.globals) ||(p.procs.length:Int) != (q.procs.length:Int)then false else Pc.rh p.procs q.procs
abbrev auO (N:Nat):Prop:=∀ s t:Sm,s.size<N→∀ st:St,aE Tryz.prog MU [.agg (aS s), .agg (aS t)] st (.bool (Sm.beq s t)) st
abbrev aBG (N:Nat):Prop:=∀ l l':List Sm,Sm.a7 l<N→∀ st:St,aE Tryz.prog IB [.slice .shared 13 (l.map aS), .slice .shared 13 (l'.map aS)] st (.bool (Sm.ahE l l')) st
def Ep (n:Int):Ex:=⟨1,n,[],[]⟩
def tJ (s:aF):Ex:=⟨2,0,s,[]⟩
def HI (op:Int) (a b:Ex):Ex:=⟨op,0,[],[a,b]⟩
theorem ak8 (n:Int) (s:St):aE Tryz.prog tc [.int .i64 n] s (.agg (bQ (Ep n))) s:=by
 refine aE.pure ?_ rfl (by simp[D.ok,jN]) s
 unfold S0
 refine aE.go M4 rfl fun B Q hB hQ=>?_
 have⟨hD,gA,gB,gC⟩:=cd
 repeat' (first
 |simp only[go_sem,hD,gA,gB,gC,Ep]
 |(with_reducible first|refine bg fun hc=>?_|refine bh fun hc=>?_|refine bj (fun hc=>?_) fun hc=>?_)<;>(try simp only[hc,bs,↓reduceIte]at h)<;>try simp only[hc]
 |(with_reducible refine aD hQ ?_;simp only[aT,aV,bD,bE,go_sem,hD,gA,gB,gC,Ep];try exact bX))
theorem Tw (t:aF) (s:St):aE Tryz.prog l9 [.str t] s (.agg (bQ (tJ t))) s:=by
 refine aE.pure ?_ rfl (by simp[D.ok,jN]) s
 unfold S0
 refine aE.go KF rfl fun B Q hB hQ=>?_
 have⟨hD,gA,gB,gC⟩:=cd
 repeat' (first
 |simp only[go_sem,hD,gA,gB,gC,tJ]
 |(with_reducible first|refine bg fun hc=>?_|refine bh fun hc=>?_|refine bj (fun hc=>?_) fun hc=>?_)<;>(try simp only[hc,bs,↓reduceIte]at h)<;>try simp only[hc]
 |(with_reducible refine aD hQ ?_;simp only[aT,aV,bD,bE,go_sem,hD,gA,gB,gC,tJ];try exact bX))
theorem WD (op:Int) (a b:Ex) (s:St):aE Tryz.prog wO [.int .i64 op, .agg (bQ a), .agg (bQ b)] s (.agg (bQ (HI op a b))) s:=by
 refine aE.pure ?_ (by simp[D.bK,D.ok,jN]) (by simp[D.ok,jN]) s
 unfold S0
 refine aE.go M5 rfl fun B Q hB hQ=>?_
 have⟨hD,gA,gB,gC⟩:=cd
 repeat' (first
 |simp only[go_sem,hD,gA,gB,gC,HI]
 |(with_reducible first|refine bg fun hc=>?_|refine bh fun hc=>?_|refine bj (fun hc=>?_) fun hc=>?_)<;>(try simp only[hc,bs,↓reduceIte]at h)<;>try simp only[hc]
 |(with_reducible refine aD hQ ?_;simp only[aT,aV,bD,bE,go_sem,hD,gA,gB,gC,HI];try exact bX))
def source:aF:= [103,108,111,98,97,108,32,103,59,10,112,114,111,99,32,109,97,105,110,40,41,32,123,10,32,118,97,114,32,118,59,10,32,118,32,61,32,50,59,10,32,103,32,61,32,112,40,51,44,32,114,101,102,32,118,41,59,10,32,112,114,105,110,116,32,118,59,10,32,112,114,105,110,116,32,103,59,10,125,10,112,114,111,99,32,112,40,120,44,32,114,101,102,32,121,41,32,123,10,32,121,32,61,32,121,32,43,32,120,59,10,32,105,102,32,40,121,32,62,32,57,41,32,123,10,32,32,103,111,116,111,32,101,59,10,32,125,10,32,114,101,116,117,114,110,32,121,59,10,101,58,32,125,10]
def tL:Pg:=⟨[[103]],[
 ⟨[109,97,105,110],[],[[118]],[
  ⟨1,1,[],[118],[],Ep 2,false,[],[],[]⟩,
  ⟨2,4,[],[103],[112],qn,false,[⟨false,[],Ep 3⟩,⟨true,[118],qn⟩],[],[]⟩,
  ⟨3,3,[],[],[],tJ [118],false,[],[],[]⟩,
  ⟨4,3,[],[],[],tJ [103],false,[],[],[]⟩],[]⟩,
 ⟨[112],[⟨[120],false⟩,⟨[121],true⟩],[],[
  ⟨5,1,[],[121],[],HI 8 (tJ [121]) (tJ [120]),false,[],[],[]⟩,
  ⟨6,5,[],[],[],HI 12 (tJ [121]) (Ep 9),false,[],[⟨7,10,[],[101],[],qn,false,[],[],[]⟩],[]⟩,
  ⟨8,9,[],[],[],tJ [121],true,[],[],[]⟩],[[101]]⟩]⟩
theorem ahF (s:St):aE Tryz.prog zp [] s (.agg (bJ tL)) s:=by
 refine aE.pure ?_ rfl (by simp[D.ok,jh]) s
 unfold S0
 refine aE.go KB rfl fun B Q hB hQ=>?_
 have⟨hD,gA,gB,gC⟩:=cd
 repeat' (first
 |simp only[go_sem,hD,gA,gB,gC,tL]
 |(with_reducible refine CU (ak8 _ _) ?_)
 |(with_reducible refine CU (Tw _ _) ?_)
 |(with_reducible refine CU (WD _ _ _ _) ?_)
 |(with_reducible refine aD hQ ?_;simp only[aT,aV,bD,bE,go_sem,hD,gA,gB,gC];repeat' (first|exact Ok.out|with_reducible refine ju ?_ ?_|(simp;done))))
 repeat' (first|exact Ok.out|with_reducible refine Wk.agg ?_|with_reducible refine Wk.rows ?_|with_reducible refine Wk.slice ?_|with_reducible refine gY.cons ?_ ?_|with_reducible refine j9.cons ?_ ?_)
def Pg.aAN (p:Pg) (n:Int):aF:=match p.procs[(ahu n p.procs.length).toNat]? with|some f=>f.name|none=> []
theorem ZE {p:Pg} (h:(p.arity.1==0)=true) (h2:(p.alias.1==0)=true) : ∀ v∈p.pre,(v.kind==4)=true→v.uE p=true:=by
 unfold Pg.alias at h2
 rw[if_pos h]at h2
 intro v hv hk
 have : ∀ l:List Sm,((rL 8 (HG p l)).1==0)=true→∀ v∈l,(v.kind==4)=true→v.uE p=true:=by
  intro l
  induction l with
  |nil=>intro _ v m;cases m
  | cons a l ih=>
   intro h v m hk
   simp only[HG]at h
   split at h
   ·cases h
   ·rename_i c
    rcases List.mem_cons.1 m with rfl|m
    ·simpa[hk]using c
    ·exact ih h v m hk
 exact this _ h2 v hv hk
theorem NL {p:Pg} : ∀ {l:List Sm},(∀ v∈l,(v.kind==4)=true→v.uE p=true)→HG p l=none
 | [],_=>rfl
 |v::l,h=>by
  simp only[HG]
  rw[if_neg,NL fun w m=>h w (List.mem_cons_of_mem _ m)]
  intro c
  simp only[Bool.and_eq_true,Bool.not_eq_true']at c
  rw[h v (List.mem_cons_self ..) c.1]at c
  exact absurd c.2 (by simp)
section
variable {a b:aF}
end
section
variable {a b:aF} (ha:isName a=true) (hb:isName b=true)
include ha hb
end
def Pg.check (p:Pg):Int×Int:=if p.scope.1==0 then(if p.arity.1==0 then(if p.jump.1==0 then p.alias else p.jump)else p.arity)else p.scope
end Go.Abs
namespace Go.Abs
mutual
def Sm.gW (g:Sm→Sm):Sm→Sm
 |⟨id,kind,labels,name,proc,x,has,args,aM,aL⟩=> {g ⟨id,kind,labels,name,proc,x,has,args,aM,aL⟩with aM:=Sm.kG g aM,aL:=Sm.kG g aL}
def Sm.kG (g:Sm→Sm):List Sm→List Sm
 | []=> []
 |s::l=>s.gW g::Sm.kG g l
end
def It.gW (g:Sm→Sm) (i:It):It:= {i with s:=i.s.gW g}
def Pc.gW (g:Sm→Sm) (f:Pc):Pc:= {f with body:=Sm.kG g f.body}
def Pg.gW (g:Sm→Sm) (p:Pg):Pg:= {p with procs:=p.procs.map (Pc.gW g)}
theorem Qd (g:Sm→Sm) (s:Sm):s.gW g = {g s with aM:=Sm.kG g s.aM,aL:=Sm.kG g s.aL}:=by cases s;rfl
def gf (t:Sm) (v:Sm):Sm:=if v.id==t.id then t else v
theorem NM {p:Pg} {f:Pc} {procs:List aF} : ∀ {l:List Sm},(∀ v∈l,v.known p f procs=true)→zI p f procs l=none
 | [],_=>rfl
 |v::l,h=>by
  simp only[zI,h v (List.mem_cons_self ..),if_true]
  exact NM fun w m=>h w (List.mem_cons_of_mem _ m)
theorem HJ {p:Pg} {procs:List aF} : ∀ {l:List Pc},(∀ f∈l,eZ (p.globals++f.own)=false∧∀ v∈Sm.bZ f.body,v.known p f procs=true)→tC p procs l=(0,0)
 | [],_=>rfl
 |f::l,h=>by
  obtain⟨h1,h2⟩:=h f (List.mem_cons_self ..)
  simp only[tC,h1,Bool.false_eq_true,if_false,NM h2]
  exact HJ fun w m=>h w (List.mem_cons_of_mem _ m)
theorem J9 {p:Pg} (hm:p.may=true) (h1:eZ p.globals=false) (h2:eZ p.pn=false) (h3:p.nB=false) (h4 : ∀ f∈p.procs,eZ (p.globals++f.own)=false∧∀ v∈Sm.bZ f.body,v.known p f p.pn=true):p.scope=(0,0):=by
 unfold Pg.scope
 rw[if_pos hm,h1,h2,h3]
 exact HJ h4
theorem Qe {p:Pg} : ∀ {l:List Sm},(∀ v∈l,(v.kind==4)=true→v.pb p=true)→Hv p l=none
 | [],_=>rfl
 |v::l,h=>by
  simp only[Hv]
  rw[if_neg,Qe fun w m=>h w (List.mem_cons_of_mem _ m)]
  intro c
  simp only[Bool.and_eq_true,Bool.not_eq_true']at c
  rw[h v (List.mem_cons_self ..) c.1]at c
  exact absurd c.2 (by simp)
theorem WE {p:Pg} (hs:(p.scope.1==0)=true) (h : ∀ v∈p.pre,(v.kind==4)=true→v.pb p=true):p.arity=(0,0):=by
 unfold Pg.arity
 rw[if_pos hs,Qe h]
 rfl
theorem HK {lK fin:List aF} : ∀ {l:List (Sm×Int)} {seen:List aF},u9 lK fin seen l=none↔rK seen (gy (l.map Prod.fst)++fin)=false∧∀ q∈l,kn lK q.1 q.2=true
 | [],seen=>by
  simp only[u9,List.map_nil,gy,List.nil_append,List.not_mem_nil,false_imp_iff,implies_true,and_true]
  rw[DM]
  cases rK seen fin<;>simp
 | (v,lp)::l,seen=>by
  simp only[u9,List.map_cons,gy,List.append_assoc]
  rw[DM,Qa v.labels]
  cases h:rK seen v.labels
  ·simp only [Bool.false_eq_true,if_false,if_true,Bool.false_or]
   cases h2:kn lK v lp
   ·simp only [Bool.false_eq_true,if_false,reduceCtorEq,false_iff,not_and]
    intro _ h3
    have:=h3 (v,lp) (List.mem_cons_self ..)
    rw[h2]at this;cases this
   ·simp only [if_true,HK (l:=l),List.mem_cons]
    constructor
    ·rintro⟨h3,h4⟩
     refine⟨h3,fun q hq=>?_⟩
     rcases hq with rfl|hq
     ·exact h2
     ·exact h4 q hq
    ·rintro⟨h3,h4⟩
     exact⟨h3,fun q hq=>h4 q (.inr hq)⟩
  ·simp
theorem BR : ∀ {l:List Pc},va l=none↔∀ f∈l,eZ f.labels=false∧∀ q∈f.qT,kn f.labels q.1 q.2=true
 | []=>by simp[va]
 | f::l=>by
  have e:u9 f.labels f.fin [] f.qT=none↔eZ f.labels=false∧∀ q∈f.qT,kn f.labels q.1 q.2=true:=by
   rw[HK,Qb];rfl
  simp only[va,List.mem_cons]
  split
  ·rename_i id h
   simp only[reduceCtorEq,false_iff]
   intro h3
   rw[e.2 (h3 f (.inl rfl))]at h
   cases h
  ·rename_i h
   rw[BR (l:=l)]
   constructor
   ·intro h3 g hg
    rcases hg with rfl|hg
    ·exact e.1 h
    ·exact h3 g hg
   ·exact fun h3 g hg=>h3 g (.inr hg)
structure Pg.Right (p:Pg):Prop where
 may:p.may=true
 tg:eZ p.globals=false
 tp:eZ p.pn=false
 main:p.nB=false
 own : ∀ f∈p.procs,eZ (p.globals++f.own)=false
 known : ∀ f∈p.procs,∀ v∈Sm.bZ f.body,v.known p f p.pn=true
 lK : ∀ f∈p.procs,eZ f.labels=false
 leads : ∀ f∈p.procs,∀ q∈f.qT,kn f.labels q.1 q.2=true
 fits : ∀ v∈p.pre,(v.kind==4)=true→v.pb p=true
 single : ∀ v∈p.pre,(v.kind==4)=true→v.uE p=true
theorem Pg.Right.scope {p:Pg} (h:p.Right):p.scope=(0,0):=J9 h.may h.tg h.tp h.main fun f hf=>⟨h.own f hf,h.known f hf⟩
theorem Pg.Right.arity {p:Pg} (h:p.Right):p.arity=(0,0):=WE (by rw[h.scope];rfl) h.fits
theorem Pg.Right.jump {p:Pg} (h:p.Right):p.jump=(0,0):=by
 unfold Pg.jump
 rw[h.scope,BR.2 fun f hf=>⟨h.lK f hf,h.leads f hf⟩]
 rfl
theorem Pg.Right.alias {p:Pg} (h:p.Right):p.alias=(0,0):=by
 unfold Pg.alias
 rw[h.arity,NL h.single]
 rfl
theorem Pg.Right.check {p:Pg} (h:p.Right):p.check=(0,0):=by
 unfold Pg.check
 rw[h.scope,h.arity,h.jump,h.alias]
 rfl
theorem NN {p:Pg} (h:(p.check.1==0)=true):p.Right:=by
 unfold Pg.check at h
 by_cases h1:(p.scope.1==0)=true
 ·rw [if_pos h1]at h
  by_cases h2:(p.arity.1==0)=true
  ·rw [if_pos h2]at h
   by_cases h3:(p.jump.1==0)=true
   ·rw [if_pos h3]at h
    obtain⟨k1,k2,k3,k4⟩:=F4 h1
    have hj:va p.procs=none:=by
     unfold Pg.jump at h3
     rw[if_pos h1]at h3
     cases e:va p.procs with
     |none=>rfl
     |some id=>rw[e]at h3;cases h3
    rw[BR]at hj
    exact⟨DC h1,k1,k2,k3,fun f hf=>(k4 f hf).1,fun f hf=>(k4 f hf).2,fun f hf=>(hj f hf).1,fun f hf=>(hj f hf).2,(ND h2).2,ZE h2 h⟩
   ·rw[if_neg h3]at h;exact absurd h h3
  ·rw[if_neg h2]at h;exact absurd h h2
 ·rw[if_neg h1]at h;exact absurd h h1
def TKs (l:List pU):Prop:=∀ t∈l,(t.kind=1→isName t.text=true)∧(t.kind=2→0≤t.n)
def GK {α:Type} (r:Rd) (o:Option (α×Rd)) (Q:α→Prop):Prop:=∀ p,o=some p→p.2.l=r.l∧(p.2.good=true→r.good=true∧Q p.1)
def GKR (r:Rd) (o:Option Rd):Prop:=∀ p,o=some p→p.l=r.l∧(p.good=true→r.good=true)
def Pt {α:Type} (o:Option α) (Q:α→Prop):Prop:=∀ a,o=some a→Q a
structure at5 (a b:Rd):Prop where
 l:b.l=a.l
 n:b.n=a.n
 g:b.good=true→a.good=true
def SmK (r0:Rd) (p:Sm×Rd):Prop:=at5 r0 p.2∧p.1.aM = []∧p.1.aL = []
structure Num (r:Rd) (k:Nat) (r':Rd):Prop where
 l:r'.l=r.l
 g:r'.good=true→r.good=true
 n:r'.good=true→k=r'.n
 le:r'.good=true→r.n≤200→r'.n≤200
def SmL (s:Sm):Prop:=∀ L,dS L=true→({s with labels:=L} : Sm).one=true
def aBH (s:aF):Bool:=s == [98,114,101,97,107] ||s == [99,111,110,116,105,110,117,101] ||s == [114,101,116,117,114,110] ||s == [103,111,116,111] ||s == [114,101,97,100] ||s == [112,114,105,110,116]
mutual
def Sm.DN (d:Int):Sm→Prop
 |⟨id,kind,labels,name,proc,x,has,args,aM,aL⟩=>(⟨id,kind,labels,name,proc,x,has,args,aM,aL⟩:Sm).one=true∧d≤12∧Sm.zN (d+1) aM∧Sm.zN (d+1) aL
def Sm.zN (d:Int):List Sm→Prop
 | []=>True
 |s::l=>s.DN d∧Sm.zN d l
end
theorem Sm.NO (d:Int) (s:Sm):s.DN d↔s.one=true∧d≤12∧Sm.zN (d+1) s.aM∧Sm.zN (d+1) s.aL:=by cases s;simp only[Sm.DN]
def aCb (d:Int) (s:Sm):Prop:=∀ L,dS L=true→({s with labels:=L} : Sm).DN d
structure Pc.DN (f:Pc):Prop where
 name:isName f.name=true
 params:Pm.fD f.params=true∧f.params.length≤8
 vars:dS f.vars=true∧(f.vars.length:Int)≤16
 fin:dS f.fin=true
 body:Sm.zN 1 f.body
mutual
theorem Sm.Qf (b:Bool) (n:Nat) : ∀ s:Sm,(Sm.num b n s).2=n+s.iE
 |⟨_,_,_,_,_,_,_,_,aM,aL⟩=>by
  simp only[Sm.num,Sm.iE]
  rw[Sm.uF b _ aL,Sm.uF b _ aM];omega
theorem Sm.uF (b:Bool) (n:Nat) : ∀ l:List Sm,(Sm.cW b n l).2=n+Sm.fR l
 | []=>rfl
 |s::l=>by
  simp only[Sm.cW,Sm.fR]
  rw[Sm.uF b _ l,Sm.Qf b _ s];omega
end
theorem Sm.one_num (b:Bool) (n:Nat) (s:Sm):((Sm.num b n s).1).one=s.one:=by
 obtain⟨id,kind,labels,name,proc,x,has,args,aM,aL⟩:=s
 simp only[Sm.num,Sm.one,Sm.MT,Sm.hasName,Sm.xu,Sm.MS]
 rfl
def tM (n:Nat) (oB:List It):Prop:=∀ (j:Nat) (it:It),oB[j]? = some it→it.s.id=((n+j+1:Nat):Int)∧it.deep≤12∧it.s.one=true
theorem tM.app {n k:Nat} {a b:List It} (ha:tM n a) (hk:a.length=k) (hb:tM (n+k) b):tM n (a++b):=by
 intro j it h
 rcases Nat.lt_or_ge j a.length with hj|hj
 ·rw [List.getElem?_append_left hj]at h
  exact ha j it h
 ·rw [List.getElem?_append_right hj]at h
  obtain⟨h1,h2⟩:=hb _ it h
  refine⟨?_,h2⟩
  rw[h1];congr 1;omega
theorem tM.nil (n:Nat):tM n []:=fun j it h=>by simp at h
mutual
theorem WG : ∀ (s:Sm) (n:Nat) (deep cG:Int) (aL:Bool) (out:List It),s.DN deep→out.length+s.iE≤200→∃ oB,iF deep cG aL out (Sm.num true n s).1=out++oB∧oB.length=s.iE∧tM n oB
 | ⟨id,kind,labels,name,proc,x,has,args,aM,e⟩,n,deep,cG,aL,out,h,hc=>by
  have h0:=(Sm.NO _ _).1 h
  obtain⟨h1,h2,h3,h4⟩:=h0
  dsimp only at h3 h4
  have gD:=Sm.one_num true n ⟨id,kind,labels,name,proc,x,has,args,aM,e⟩
  simp only[Sm.num,↓reduceIte,iF]at gD ⊢
  rw[h1]at gD
  simp only[Sm.iE]at hc
  have hd:decide (deep≤12)=true:=by simp;omega
  simp only[hd,↓reduceIte]
  obtain⟨i1,e1,l1,p1⟩:=yS aM (n+1) (deep+1) ((n+1:Nat):Int) false (out++ [⟨⟨((n+1:Nat):Int),kind,labels,name,proc,x,has,args,(Sm.cW true (n+1) aM).1,(Sm.cW true (Sm.cW true (n+1) aM).2 e).1⟩,deep,cG,aL⟩]) h3 (by simp;omega)
  rw[e1,Sm.uF]
  obtain⟨i2,e2,l2,p2⟩:=yS e (n+1+Sm.fR aM) (deep+1) ((n+1:Nat):Int) true (out++ [⟨⟨((n+1:Nat):Int),kind,labels,name,proc,x,has,args,(Sm.cW true (n+1) aM).1,(Sm.cW true (n+1+Sm.fR aM) e).1⟩,deep,cG,aL⟩]++i1) h4 (by simp;omega)
  rw[e2]
  rw[Sm.uF]at gD
  refine⟨_,by rw[List.append_assoc,List.append_assoc], ?_, ?_⟩
  ·simp only[List.length_append,List.length_cons,List.length_nil,Sm.iE];omega
  ·refine tM.app (k:=1) ?_ rfl (tM.app p1 l1 p2)
   intro j it hj
   cases j with
   |zero=>simp at hj;subst hj;exact⟨rfl,h2,gD⟩
   |succ j=>simp at hj
theorem yS : ∀ (l:List Sm) (n:Nat) (deep cG:Int) (aL:Bool) (out:List It),Sm.zN deep l→out.length+Sm.fR l≤200→∃ oB,fw deep cG aL out (Sm.cW true n l).1=out++oB∧oB.length=Sm.fR l∧tM n oB
 | [],n,deep,cG,aL,out,h,hc=>⟨[],by simp only[Sm.cW,fw,List.append_nil],rfl,tM.nil n⟩
 |s::l,n,deep,cG,aL,out,h,hc=>by
  simp only[Sm.fR]at hc
  have hle:decide ((out.length:Int)≤200)=true:=by simp only[decide_eq_true_eq];omega
  simp only[Sm.cW,fw,hle,↓reduceIte]
  obtain⟨i1,e1,l1,p1⟩:=WG s n deep cG aL out h.1 (by omega)
  rw[e1,Sm.Qf]
  obtain⟨i2,e2,l2,p2⟩:=yS l (n+s.iE) deep cG aL (out++i1) h.2 (by simp;omega)
  rw[e2]
  exact⟨i1++i2,by rw[List.append_assoc],by simp only[List.length_append,Sm.fR];omega,tM.app p1 l1 p2⟩
end
def Pc.vG:List Pc→Nat
 | []=>0
 |f::l=>Sm.fR f.body+Pc.vG l
theorem NP : ∀ (l:List Pc) (n:Nat) (out:List It),(∀ f∈l,f.DN)→out.length+Pc.vG l≤200→∃ oB,allM out (Pc.cW n l)=out++oB∧oB.length=Pc.vG l∧tM n oB
 | [],n,out,_,_=>⟨[],by simp only[Pc.cW,allM,List.append_nil],rfl,tM.nil n⟩
 |f::l,n,out,h,hc=>by
  simp only[Pc.vG]at hc
  obtain⟨i1,e1,l1,p1⟩:=yS f.body n 1 0 false [] (h f (List.mem_cons_self ..)).body (by simp;omega)
  have ef:Pc.flat {f with body:=(Sm.cW true n f.body).1} = i1:=by simp only[Pc.flat];rw[e1];rfl
  have hle:decide (((out++i1).length:Int) > 200)=false:=by simp only[List.length_append,decide_eq_false_iff_not];omega
  simp only[Pc.cW,allM,ef,hle,Bool.false_eq_true,↓reduceIte]
  rw[Sm.uF]
  obtain⟨i2,e2,l2,p2⟩:=NP l (n+Sm.fR f.body) (out++i1) (fun g hg=>h g (List.mem_cons_of_mem _ hg)) (by simp;omega)
  rw[e2]
  exact⟨i1++i2,by rw[List.append_assoc],by simp only[List.length_append,Pc.vG];omega,tM.app p1 l1 p2⟩
theorem tM.fD : ∀ (l:List It) (n:Nat),tM n l→It.fD n l=true
 | [],_,_=>rfl
 |i::l,n,h=>by
  obtain⟨h1,h2,h3⟩:=h 0 i rfl
  have e1:(i.s.id != ((n+1:Nat):Int))=false:=by rw[h1];simp
  have e2:decide (i.deep > 12)=false:=by simp;omega
  simp only[It.fD,e1,e2,h3,Bool.not_true,Bool.or_self,Bool.false_eq_true,↓reduceIte]
  refine tM.fD l (n+1) fun j it hj=>?_
  have:=h (j+1) it (by simpa using hj)
  refine⟨?_,this.2⟩
  rw[this.1];congr 1;omega
theorem Ka : ∀ (l:List Pc) (n:Nat),(∀ f∈l,f.DN)→Pc.mQ (Pc.cW n l)=true
 | [],_,_=>rfl
 |f::l,n,h=>by
  have k:=h f (List.mem_cons_self ..)
  have e1:decide ((f.params.length:Int) > 8)=false:=by have:=k.params.2;simp only[decide_eq_false_iff_not];omega
  have e2:decide ((f.vars.length:Int) > 16)=false:=by have:=k.vars.2;simp only[decide_eq_false_iff_not];omega
  simp only[Pc.cW,Pc.mQ,k.name,e1,e2,k.vars.1,k.fin,k.params.1,Bool.not_true,Bool.or_self,Bool.false_eq_true,↓reduceIte]
  exact Ka l _ fun g hg=>h g (List.mem_cons_of_mem _ hg)
theorem Pc.Qg : ∀ (l:List Pc) (n:Nat),(Pc.cW n l).length=l.length
 | [],_=>rfl
 |g::l,n=>by simp only[Pc.cW,List.length_cons,Pc.Qg l]
theorem Ty {p:Pg} (h1:dS p.globals=true) (h2:(p.globals.length:Int)≤16) (h3 : ∀ f∈p.procs,f.DN) (h4:p.procs.length≤16) (h5:Pc.vG p.procs≤200):p.number.may=true∧p.number.all.length=Pc.vG p.procs:=by
 obtain⟨oB,e,hl,hi⟩:=NP p.procs 0 [] h3 (by simpa using h5)
 have ea:p.number.all=oB:=by simp only[Pg.all,Pg.number];rw[e];rfl
 have e1:decide ((p.globals.length:Int) > 16)=false:=by simp only[decide_eq_false_iff_not];omega
 have e2:decide (((Pc.cW 0 p.procs).length:Int) > 16)=false:=by rw[Pc.Qg];simp only[decide_eq_false_iff_not];omega
 have e3:decide ((oB.length:Int) > 200)=false:=by simp only[decide_eq_false_iff_not];omega
 refine⟨?_,by rw[ea,hl]⟩
 have e0:p.number.may=(if decide ((p.globals.length:Int) > 16) ||decide (((Pc.cW 0 p.procs).length:Int) > 16) || !(dS p.globals)then false
  else if !(Pc.mQ (Pc.cW 0 p.procs))then false else if decide ((p.number.all.length:Int) > 200)then false else It.fD 0 p.number.all):=rfl
 rw[e0,ea]
 simp only[e1,e2,h1,Ka _ 0 h3,e3,Bool.not_true,Bool.or_self,Bool.false_eq_true,↓reduceIte]
 exact tM.fD oB 0 hi
def Sm.core (v:Sm):Sm:= {v with id:=0,aM:= [],aL:= []}
theorem yT (v:Sm):v.core.said=v.said:=by cases v;rfl
theorem Kb (v:Sm):v.core.kind=v.kind:=rfl
theorem WH (lK:List aF) (v:Sm) (lp:Int):kn lK v.core lp=kn lK v lp:=rfl
theorem WI (lK:List aF) (v:Sm) (lp nF:Int) (h:(lp != 0)=(nF != 0)):kn lK v lp=kn lK v nF:=by unfold kn;rw[h]
mutual
def Sm.cp (b:Bool):Sm→List (Sm×Bool)
 |⟨id,kind,labels,name,pc,x,has,args,aM,aL⟩=>((⟨id,kind,labels,name,pc,x,has,args,aM,aL⟩:Sm).core,b)::(Sm.oH (b ||kind==6) aM++Sm.oH (b ||kind==6) aL)
def Sm.oH (b:Bool):List Sm→List (Sm×Bool)
 | []=> []
 |s::l=>s.cp b++Sm.oH b l
end
mutual
theorem ahH (proc up next loop:Int) : ∀ s:Sm,(∀ v∈s.pre,v.id≠0)→(s.tD proc up next loop).map (fun m=>(m.s.core,m.loop != 0))=s.cp (loop != 0)
 | ⟨id,kind,labels,name,pc,x,has,args,aM,aL⟩,h=>by
  have hid:id≠0:=h ⟨id,kind,labels,name,pc,x,has,args,aM,aL⟩ (by simp[Sm.pre])
  have h1 : ∀ v∈Sm.bZ aM,v.id≠0:=fun v m=>h v (by simp[Sm.pre,m])
  have h2 : ∀ v∈Sm.bZ aL,v.id≠0:=fun v m=>h v (by simp[Sm.pre,m])
  have e:((if kind==6 then id else loop) != 0)=((loop != 0) ||kind==6):=by
   cases hk:(kind==6)<;>simp[hid]
  simp only[Sm.tD,Sm.cp,List.map_cons,List.map_append,Er _ _ _ _ aM h1,Er _ _ _ _ aL h2,e]
theorem Er (proc up next loop:Int) : ∀ l:List Sm,(∀ v∈Sm.bZ l,v.id≠0)→(Sm.iM proc up next loop l).map (fun m=>(m.s.core,m.loop != 0))=Sm.oH (loop != 0) l
 | [],_=>rfl
 |s::l,h=>by
  simp only[Sm.iM,Sm.oH,List.map_append]
  rw[ahH _ _ _ _ s fun v m=>h v (by simp[Sm.bZ,m]),Er _ _ _ _ l fun v m=>h v (by simp[Sm.bZ,m])]
end
def Pc.oH (f:Pc):List (Sm×Bool):=Sm.oH false f.body
theorem WJ {f:Pc} (h : ∀ v∈Sm.bZ f.body,v.id≠0):f.qT.map (fun q=>(q.1.core,q.2 != 0))=f.oH:=by
 have:=Er 0 0 (-1) 0 f.body h
 unfold Pc.qT Pc.oH
 rw[List.map_map]
 exact this
mutual
theorem ahI (b:Bool) : ∀ s:Sm,(s.cp b).map Prod.fst=s.pre.map Sm.core
 |⟨id,kind,labels,name,pc,x,has,args,aM,aL⟩=>by simp only[Sm.cp,Sm.pre,List.map_cons,List.map_append,w6 _ aM,w6 _ aL]
theorem w6 (b:Bool) : ∀ l:List Sm,(Sm.oH b l).map Prod.fst=(Sm.bZ l).map Sm.core
 | []=>rfl
 |s::l=>by simp only[Sm.oH,Sm.bZ,List.map_append,ahI _ s,w6 _ l]
end
theorem Fl : ∀ l:List Sm,gy (l.map Sm.core)=gy l
 | []=>rfl
 |v::l=>by simp only[List.map_cons,gy,Fl l];rfl
theorem HL (f:Pc):f.labels=gy (f.oH.map Prod.fst)++f.fin:=by
 unfold Pc.labels Pc.oH
 rw[w6,Fl]
theorem DO {x:aF} : ∀ {l:List Sm},x∈rX l↔∃ v∈l,x∈v.said
 | []=>by simp[rX]
 |v::l=>by simp[rX,DO (l:=l)]
structure Pc.Part (g f:Pc):Prop where
 name:g.name=f.name
 params:g.params=f.params
 vars:g.vars=f.vars
 fin:g.fin=f.fin
 sub:List.Sublist g.oH f.oH
 IW : ∀ c∈g.oH,c.1.kind=10→c.1.name∈f.labels→c.1.name∈g.labels
structure Pg.Part (q p:Pg):Prop where
 rl:q.globals=p.globals
 procs : ∃ l:List (Pc×Pc),q.procs=l.map Prod.fst∧(l.map Prod.snd).Perm p.procs∧∀ x∈l,Pc.Part x.1 x.2
theorem tO {nm:aF} : ∀ {l:List Pc} {f:Pc},(l.map (·.name)).Nodup→(gQ nm l=some f↔f∈l∧f.name=nm)
 | [],f,_=>by simp[gQ]
 | a::l,f,h=>by
  simp only[List.map_cons,List.nodup_cons]at h
  simp only[gQ]
  by_cases e:(a.name==nm)=true
  ·rw [if_pos e]
   have e':a.name=nm:=by simpa using e
   constructor
   ·intro h1;cases h1;exact⟨List.mem_cons_self ..,e'⟩
   ·rintro⟨h1,h2⟩
    rcases List.mem_cons.1 h1 with rfl|h1
    ·rfl
    ·exact absurd (List.mem_map_of_mem (f:=fun x:Pc=>x.name) h1) (by show f.name∉_;rw[h2, ← e'];exact h.1)
  ·rw [if_neg e,tO h.2]
   constructor
   ·exact fun⟨h1,h2⟩=>⟨List.mem_cons_of_mem _ h1,h2⟩
   ·rintro⟨h1,h2⟩
    rcases List.mem_cons.1 h1 with rfl|h1
    ·exact absurd (by simpa using h2) e
    ·exact⟨h1,h2⟩
theorem zO {nm:aF} {T T':List aF} (hT : ∀ x,fv T' x=true→fv T x=true) : ∀ {l:List Ar} {seen:List aF},ng nm T seen l=true→ng nm T' seen l=true
 | [],_,_=>rfl
 | a::l,seen,h=>by
  simp only[ng]at h ⊢
  split
  ·rename_i hr
   rw[if_pos hr]at h
   split at h
   ·cases h
   ·rename_i hc
    simp only[Bool.or_eq_true,not_or,Bool.not_eq_true]at hc
    have hx:fv T' a.name=false:=by
     cases e:fv T' a.name with
     |false=>rfl
     |true=>rw[hT _ e]at hc;exact absurd hc.2.2 (by simp)
    rw[if_neg (by simp only[Bool.or_eq_true,not_or,Bool.not_eq_true];exact⟨hc.1,hc.2.1,hx⟩)]
    exact zO hT h
  ·rename_i hr
   rw[if_neg hr]at h
   exact zO hT h
theorem Qh {p:Pg} (h:p.may=true) {f:Pc} (hf:f∈p.procs) : ∀ v∈Sm.bZ f.body,v.id≠0:=fun v m=>by
 have hm:v∈p.pre:=by simp only[Pg.pre,List.mem_flatten,List.mem_map];exact⟨_,⟨f,hf,rfl⟩,m⟩
 obtain⟨i,hi⟩:=List.getElem?_of_mem hm
 have:=AR h hi
 omega
theorem Qi {lK:List aF} {f:Pc} (h : ∀ v∈Sm.bZ f.body,v.id≠0):(∀ q∈f.qT,kn lK q.1 q.2=true)↔∀ c∈f.oH,kn lK c.1 (if c.2 then 1 else 0)=true:=by
 rw[← WJ h]
 have key : ∀ q:Sm×Int,kn lK q.1.core (if(q.2 != 0)=true then 1 else 0)=kn lK q.1 q.2:=fun q=>by
  rw[WH]
  exact WI lK q.1 _ _ (by cases (q.2 != 0)<;>rfl)
 constructor
 ·intro h1 c hc
  obtain⟨q,hq,rfl⟩:=List.mem_map.1 hc
  rw[key];exact h1 q hq
 ·intro h1 q hq
  have:=h1 _ (List.mem_map_of_mem hq)
  rw[key]at this;exact this
set_option maxRecDepth 8000
open Go.Proofs
theorem sn {size bytes:Nat} {rows:List (List D)} (h:rows≠ []) (hl:rows.length*(bytes+1)≤bp) {z:Nat} {g:Tag} (o:List (List D)) (T:List (Option Nat)) :
 iu size bytes (.slice .full z []) (.slice g size rows) ⟨o,T⟩=some (.slice (.tok T.length) size rows,⟨o,T++ [some rows.length]⟩):=by
 cases rows with
 |nil=>exact absurd rfl h
 |cons x r=>simp only[List.length_cons]at hl;simp[iu,hl]
theorem sq {size bytes z z':Nat} {g:Tag} (o:List (List D)) (T:List (Option Nat)) :
 iu size bytes (.slice .full z []) (.slice g z' []) ⟨o,T⟩=some (.slice .full z [],⟨o,T⟩):=by simp[iu,bp]
theorem w7 {l:List aF} (hl:l.length≤10000000) (s:St):aE Tryz.prog oj [.slice .shared 1 (l.map encStr)] s (.slice .shared 1 (l.map encStr)) s:=by
 refine aE.pure ?_ (by simp[D.bK,D.ok,fe,Tag.ok]) (by rw[D.ok,fe];rfl) s
 unfold S0
 cases l with
 |nil=>
  simp only[List.map_nil]
  have ha:=fun o T=>sq (size:=1) (bytes:=16) (z:=0) (z':=1) (g:= .shared) o T
  refine aE.go Ax rfl fun B Q hB hQ=>?_
  have⟨hD,gA,gB,gC⟩:=cd
  repeat' (first
 |simp only[go_sem,hD,gA,gB,gC,ha]
 |(with_reducible first|refine bg fun hc=>?_|refine bh fun hc=>?_|refine bj (fun hc=>?_) fun hc=>?_)<;>(try simp only[hc,bs,↓reduceIte]at h)<;>try simp only[hc]
 |(with_reducible refine aD hQ ?_;(try cases h);simp only[aT,aV,bD,bE,go_sem,hD,gA,gB,gC,ha];try exact bX)
 |(cases h;done))
 |cons x l=>
  have ha:=fun o T=>sn (size:=1) (bytes:=16) (rows:=(x::l).map encStr) (by simp) (by simp only[List.length_map];unfold bp;omega) (z:=0) (g:= .shared) o T
  have hf:=MP 0 0 (x::l)
  generalize (x::l).map encStr=R at *
  refine aE.go Ax rfl fun B Q hB hQ=>?_
  have⟨hD,gA,gB,gC⟩:=cd
  repeat' (first
 |simp only[go_sem,hD,gA,gB,gC,ha,hf]
 |(with_reducible first|refine bg fun hc=>?_|refine bh fun hc=>?_|refine bj (fun hc=>?_) fun hc=>?_)<;>(try simp only[hc,bs,↓reduceIte]at h)<;>try simp only[hc]
 |(with_reducible refine aD hQ ?_;(try cases h);simp only[aT,aV,bD,bE,go_sem,hD,gA,gB,gC,ha,hf];try exact bX)
 |(cases h;done))
theorem Tz : ∀ n,n<1073741824→∀ x:Ex,x.size≤n→aE Tryz.prog ki [.agg (bQ x)] S0 (.agg (bQ x)) S0:=by
 intro n
 induction n with
 |zero=>rintro _ ⟨op,m,name,kids⟩ h;simp only[Ex.size]at h;omega
 |succ n ihn=>
 rintro hn ⟨op,m,name,kids⟩ hx
 have hk : ∀ y∈kids,∀ s,aE Tryz.prog ki [.agg (bQ y)] s (.agg (bQ y)) s:=fun y hy s=>
  (ihn (by omega) y (by simp only[Ex.size]at hx;have:=Ex.da hy;omega)).pure (by simp[D.bK,D.ok,jN]) (by simp[D.ok,jN]) s
 have hlen:kids.length<1073741824:=by simp only[Ex.size]at hx;have:=Ex.dJ kids;omega
 unfold S0
 refine aE.go EO rfl fun B Q hB hQ=>?_
 have⟨hD,gA,gB,gC⟩:=cd
 repeat' (first
 |simp only[go_sem,hD,gA,gB,gC]
 |(with_reducible first|refine bg fun hc=>?_|refine bh fun hc=>?_|refine bj (fun hc=>?_) fun hc=>?_)<;>(try simp only[hc,bs,↓reduceIte]at h)<;>try simp only[hc]
 |(with_reducible refine aD hQ ?_;exact fM)
 |(cases h;done))
 refine bl.ur 2 3 4 rfl rfl ?_
 simp only[go_sem,hD,gA,gB,gC]
 refine fj 3 1 (bl.ind (ι:=List Ex×Nat×List Ex) (fun i=>kids.drop i.2.1=i.1∧i.2.1=i.2.2.length∧i.2.2++i.1=kids) (fun i=>i.1.length)
  (fun i=> [(1, .ptr 0 0),(2, .ptr 1 0),(3, .ptr 2 0),(14, .int .i64 (kids.length:Int)),(15, .int .i64 (i.2.1:Int))])
  (fun i=>⟨[bQ ⟨op,m,name,kids⟩,bQ qn,[.int .i64 op, .int .i64 m, .str name, .slice (.tok 0) 4 (i.2.2.map bQ)]],[some i.2.1]⟩) ?_ (kids,0,[]) ⟨rfl,rfl,rfl⟩)
 rintro⟨rest,k,acc⟩ ⟨h1,h2,h3⟩ IH
 dsimp only at h1 h2 h3
 subst h2
 cases rest with
 |nil=>
  have hD:=drop_nil h1
  simp only[List.append_nil]at h3
  subst h3
  repeat' (first
 |simp only[go_sem,hD,gA,gB,gC]
 |(with_reducible first|refine bg fun hc=>?_|refine bh fun hc=>?_|refine bj (fun hc=>?_) fun hc=>?_)<;>(try simp only[hc,bs,↓reduceIte]at h)<;>try simp only[hc]
 |(with_reducible refine aD hQ ?_;exact fM)
 |(cases h;done))
 |cons y rest=>
  obtain⟨gA,g2,hD,g4⟩:=drop_cons h1
  have fV:(acc.length+1)*57≤bp:=by simp only[bp];omega
  have hy:=hk y (List.mem_of_getElem? gA)
  have w1:IntKind.wrap .i64 ((acc.length:Int)+1)=((acc.length+1:Nat):Int):=by rw[eD]<;>omega
  repeat' (first
 |simp only[go_sem,hD,gA,gB,gC,fV,w1]
 |(with_reducible refine CU (hy _) ?_)
 |(with_reducible first|refine bg fun hc=>?_|refine bh fun hc=>?_|refine bj (fun hc=>?_) fun hc=>?_)<;>(try simp only[hc,bs,↓reduceIte]at h)<;>try simp only[hc]
 |(with_reducible refine aD hQ ?_;(try cases h);simp only[aT,aV,bD,bE,go_sem,hD,gA,gB,gC,fV,w1];try exact bX)
 |(cases h;done))
  refine fj 3 1 (IH (rest,acc.length+1,acc++ [y]) ⟨g2,by simp,by rw[← h3];simp⟩ (Nat.lt_succ_self _))
theorem HM {x:Ex} (h:x.size<1073741824) (s:St):aE Tryz.prog ki [.agg (bQ x)] s (.agg (bQ x)) s:=
 (Tz x.size h x (Nat.le_refl _)).pure (by simp[D.bK,D.ok,jN]) (by simp[D.ok,jN]) s
def Sm.bare (v:Sm):Sm:= {v with aM:= [],aL:= []}
theorem DP {v:Sm} (hv:v.labels.length+v.x.size+Ar.a7 v.args<10000000) (s:St):aE Tryz.prog oo [.agg (aS v)] s (.agg (aS v.bare)) s:=by
 refine aE.pure ?_ (by simp[D.bK,D.ok,pI]) (by simp[D.ok,pI]) s
 obtain⟨id,kind,labels,name,proc,x,has,args,aM,aL⟩:=v
 dsimp only at hv
 have s6:=Ar.dJ args
 have hx:=fun s=>HM (x:=x) (by omega) s
 simp only[iz]at hx
 have hL:=fun s=>w7 (l:=labels) (by omega) s
 unfold Sm.bare
 unfold S0
 refine aE.go FW rfl fun B Q hB hQ=>?_
 have⟨hD,gA,gB,gC⟩:=cd
 repeat' (first
 |simp only[go_sem,hD,gA,gB,gC]
 |(with_reducible refine CU (hL _) ?_)
 |(with_reducible refine CU (hx _) ?_)
 |(with_reducible first|refine bg fun hc=>?_|refine bh fun hc=>?_|refine bj (fun hc=>?_) fun hc=>?_)<;>(try simp only[hc,bs,↓reduceIte]at h)<;>try simp only[hc]
 |(with_reducible refine aD hQ ?_;exact fM)
 |(cases h;done))
 refine bl.ur 2 10 6 rfl rfl ?_
 simp only[go_sem,hD,gA,gB,gC]
 refine fj 3 1 (bl.ind (ι:=List Ar×Nat×List Ar) (fun i=>args.drop i.2.1=i.1∧i.2.1=i.2.2.length∧i.2.2++i.1=args) (fun i=>i.1.length)
  (fun i=> [(1, .ptr 0 0),(2, .ptr 1 0),(3, .ptr 2 0),(24, .slice .shared 6 (args.map eR)),(25, .int .i64 (args.length:Int)),(26, .int .i64 (i.2.1:Int))])
  (fun i=>⟨[aS ⟨id,kind,labels,name,proc,x,has,args,aM,aL⟩,aS Jw,[.int .i64 id, .int .i64 kind, .slice .shared 1 (labels.map encStr), .str name, .str proc, .int .i64 x.op, .int .i64 x.n, .str x.name, .slice .shared 4 (x.kids.map bQ), .bool has, .slice (.tok 0) 6 (i.2.2.map eR), .slice .full 0 [], .slice .full 0 []]],[some i.2.1]⟩) ?_ (args,0,[]) ⟨rfl,rfl,rfl⟩)
 rintro⟨BG,ka,xJ⟩ ⟨j1,j2,j3⟩ IHa
 dsimp only at j1 j2 j3
 subst j2
 cases BG with
 |nil=>
  have hD:=drop_nil j1
  simp only[List.append_nil]at j3
  subst j3
  repeat' (first
 |simp only[go_sem,hD,gA,gB,gC,dL,List.map_nil]
 |(with_reducible first|refine bg fun hc=>?_|refine bh fun hc=>?_|refine bj (fun hc=>?_) fun hc=>?_)<;>(try simp only[hc,bs,↓reduceIte]at h)<;>try simp only[hc]
 |(with_reducible refine aD hQ ?_;(try cases h);simp only[aT,aV,bD,bE,go_sem,hD,gA,gB,gC,dL,List.map_nil];try exact bX)
 |(cases h;done))
 |cons c BG=>
  obtain⟨gA,g2,hD,g4⟩:=drop_cons j1
  have ha:c.x.size<1073741824:=by have:=Ar.da (List.mem_of_getElem? gA);omega
  have C4:xJ.length<4611686018427387904:=by omega
  have Hs:(xJ.length+1)*81≤bp:=by simp only[bp];omega
  have Wc:=fun s=>HM ha s
  simp only[iz]at Wc
  obtain⟨Zo,To,ax⟩:=c
  repeat' (first
 |simp only[go_sem,hD,gA,gB,gC,Hs]
 |(with_reducible refine CU (Wc _) ?_)
 |(with_reducible first|refine bg fun hc=>?_|refine bh fun hc=>?_|refine bj (fun hc=>?_) fun hc=>?_)<;>(try simp only[hc,bs,↓reduceIte]at h)<;>try simp only[hc]
 |(with_reducible refine aD hQ ?_;(try cases h);simp only[aT,aV,bD,bE,go_sem,hD,gA,gB,gC,Hs];try exact bX)
 |(cases h;done))
  refine dW 3 1 ?_ ?_ (IHa (BG,xJ.length+1,xJ++ [⟨Zo,To,ax⟩]) ⟨g2,by simp,by rw[← j3];simp⟩ (Nat.lt_succ_self _))
  ·(simp only[go_sem,hD,gA,gB,gC,aH C4];try exact bO)
  ·(simp only[go_sem,hD,gA,gB,gC,aH C4];try exact bO)
abbrev Sm.aCc (t:Sm) (l:List Sm):List Sm:=Sm.kG (gf t) l
abbrev Pg.put (p:Pg) (t:Sm):Pg:=p.gW (gf t)
def Sm.Es (v:Sm):Nat:=v.labels.length+v.x.size+Ar.a7 v.args
abbrev ab3 (t:Sm) (N:Nat):Prop:=∀ l:List Sm,Sm.a7 l<N→∀ s:St,aE Tryz.prog o6 [.slice .shared 13 (l.map aS), .agg (aS t)] s (.slice .shared 13 ((Sm.kG (gf t) l).map aS)) s
theorem ZF (t:Sm) (ht:t.Es<10000000) {N:Nat} (hN:N<10000000) (ih:ab3 t N) (l:List Sm) (hl:Sm.a7 l<N+1) :
 aE Tryz.prog o6 [.slice .shared 13 (l.map aS), .agg (aS t)] S0 (.slice .shared 13 ((Sm.kG (gf t) l).map aS)) S0:=by
 have hlen:l.length<10000001:=by have:=Sm.dJ l;omega
 have hct:=fun s=>DP (v:=t) ht s
 have hbt:aS t.bare=_:=dL t.bare
 simp only[hbt,Sm.bare,List.map_nil]at hct
 generalize hR:Sm.kG (gf t) l=R
 unfold S0
 refine aE.go M6 rfl fun B Q hB hQ=>?_
 have⟨hD,gA,gB,gC⟩:=cd
 repeat' (first
 |simp only[go_sem,hD,gA,gB,gC]
 |(with_reducible first|refine bg fun hc=>?_|refine bh fun hc=>?_|refine bj (fun hc=>?_) fun hc=>?_)<;>(try simp only[hc,bs,↓reduceIte]at h)<;>try simp only[hc]
 |(with_reducible refine aD hQ ?_;exact fM)
 |(cases h;done))
 refine bl.s7 5 13 rfl ?_
 simp only[go_sem,hD,gA,gB,gC]
 refine fj 1 1 (bl.ind (ι:=List Sm×Nat×List Sm) (fun i=>l.drop i.2.1=i.1∧i.2.1=i.2.2.length∧i.2.2++Sm.kG (gf t) i.1=R) (fun i=>i.1.length)
  (fun i=> [(3, .ptr 0 0),(5, .slice (.tok 0) 13 (i.2.2.map aS)),(9, .slice .shared 13 (l.map aS)),(10, .int .i64 (l.length:Int)),(11, .int .i64 (i.2.1:Int))])
  (fun i=>⟨[aS t],[some i.2.1]⟩) ?_ (l,0,[]) ⟨rfl,rfl,hR⟩)
 rintro⟨rest,k,acc⟩ ⟨h1,h2,h3⟩ IH
 dsimp only at h1 h2 h3
 subst h2
 cases rest with
 |nil=>
  have hD:=drop_nil h1
  simp only[Sm.kG,List.append_nil]at h3
  subst h3
  repeat' (first
 |simp only[go_sem,hD,gA,gB,gC]
 |(with_reducible first|refine bg fun hc=>?_|refine bh fun hc=>?_|refine bj (fun hc=>?_) fun hc=>?_)<;>(try simp only[hc,bs,↓reduceIte]at h)<;>try simp only[hc]
 |(with_reducible refine aD hQ ?_;exact fM)
 |(cases h;done))
 | cons y rest=>
  obtain⟨gA,g2,hD,g4⟩:=drop_cons h1
  have hk:acc.length<4611686018427387904:=by omega
  have dO:y.size≤N:=by have:=Sm.da (List.mem_of_getElem? gA);omega
  obtain⟨id,kind,labels,name,proc,x,has,args,aM,aL⟩:=y
  simp only[Sm.size]at dO
  have fV:(acc.length+1)*209≤bp:=by simp only[bp];omega
  have JL:=fun s=>DP (v:=⟨id,kind,labels,name,proc,x,has,args,aM,aL⟩) (by dsimp only;omega) s
  simp only[Sm.bare,dL,List.map_nil]at JL
  have c1:=ih aM (by omega)
  have c2:=ih aL (by omega)
  simp only[Sm.kG]at h3
  obtain⟨Y,hY⟩ : ∃ Y,Sm.gW (gf t) ⟨id,kind,labels,name,proc,x,has,args,aM,aL⟩=Y:=⟨_,rfl⟩
  rw[hY]at h3
  rw[Qd]at hY
  unfold gf at hY
  obtain⟨T,hT⟩ : ∃ T,Sm.kG (gf t) aM=T:=⟨_,rfl⟩
  obtain⟨E,hE⟩ : ∃ E,Sm.kG (gf t) aL=E:=⟨_,rfl⟩
  unfold gf at hT hE
  simp only[hT,hE]at hY
  unfold gf at c1 c2
  rw[hT]at c1
  rw[hE]at c2
  rcases Bool.eq_false_or_eq_true (id==t.id)with b1|b1
  ·rw [if_pos b1]at hY
   subst hY
   repeat' (first
 |simp only[go_sem,hD,gA,gB,gC,fV,b1]
 |(with_reducible refine CU (JL _) ?_)
 |(with_reducible refine CU (hct _) ?_)
 |(with_reducible refine CU (c1 _) ?_)
 |(with_reducible refine CU (c2 _) ?_)
 |(with_reducible first|refine bg fun hc=>?_|refine bh fun hc=>?_|refine bj (fun hc=>?_) fun hc=>?_)<;>(try simp only[hc,bs,↓reduceIte]at h)<;>try simp only[hc]
 |(with_reducible refine aD hQ ?_;(try cases h);simp only[aT,aV,bD,bE,go_sem,hD,gA,gB,gC,fV,b1];try exact bX)
 | (cases h;done))
   refine dW 1 1 ?_ ?_ (IH (rest,acc.length+1,acc++ [{t with aM:=T,aL:=E}]) ⟨g2,by simp,by rw[← h3];simp⟩ (Nat.lt_succ_self _))
   ·(simp only[go_sem,hD,gA,gB,gC,aH hk,dL];try exact bO)
   ·(simp only[go_sem,hD,gA,gB,gC,aH hk,dL];try exact bO)
  ·rw [if_neg (by simp [b1])]at hY
   subst hY
   repeat' (first
 |simp only[go_sem,hD,gA,gB,gC,fV,b1]
 |(with_reducible refine CU (JL _) ?_)
 |(with_reducible refine CU (hct _) ?_)
 |(with_reducible refine CU (c1 _) ?_)
 |(with_reducible refine CU (c2 _) ?_)
 |(with_reducible first|refine bg fun hc=>?_|refine bh fun hc=>?_|refine bj (fun hc=>?_) fun hc=>?_)<;>(try simp only[hc,bs,↓reduceIte]at h)<;>try simp only[hc]
 |(with_reducible refine aD hQ ?_;(try cases h);simp only[aT,aV,bD,bE,go_sem,hD,gA,gB,gC,fV,b1];try exact bX)
 | (cases h;done))
   refine dW 1 1 ?_ ?_ (IH (rest,acc.length+1,acc++ [⟨id,kind,labels,name,proc,x,has,args,T,E⟩]) ⟨g2,by simp,by rw[← h3];simp⟩ (Nat.lt_succ_self _))
   ·(simp only[go_sem,hD,gA,gB,gC,aH hk];try exact bO)
   ·(simp only[go_sem,hD,gA,gB,gC,aH hk];try exact bO)
theorem adJ (t:Sm) (ht:t.Es<10000000) : ∀ N,N<10000000→ab3 t N:=by
 intro N
 induction N with
 |zero=>intro _ l hl;exact absurd hl (Nat.not_lt_zero _)
 |succ N ih=>
  intro hN l hl s
  exact(ZF t ht (by omega) (ih (by omega)) l hl).pure (by simp[D.bK,D.ok,Tag.ok,nz,pI]) (by simp[D.bK,D.ok,Tag.ok,nz]) s
theorem WL {t:Sm} (ht:t.Es<10000000) {l:List Sm} (h:Sm.a7 l<9000000) (s:St):aE Tryz.prog o6 [.slice .shared 13 (l.map aS), .agg (aS t)] s (.slice .shared 13 ((Sm.kG (gf t) l).map aS)) s:=
 adJ t ht 9999999 (by omega) l (by omega) s
def AX (os ts:List Nat) (tm:Tm):Tm→Prop
 | []=>True
 |(k,d)::r=>tm.get k=d.cJ os ts∧d.ok os.length ts.length=true∧AX os ts tm r
theorem AX.get {os ts:List Nat} {tm:Tm} : ∀ {bH:Tm},AX os ts tm bH→∀ k,bH.get k = .junk∨(tm.get k=(bH.get k).cJ os ts∧(bH.get k).ok os.length ts.length=true)
 | [],_,k=> .inl rfl
 |(q,d)::r,⟨h1,h2,h3⟩,k=>by
  simp only[Tm.get]
  split
  ·rename_i e;subst e;exact .inr ⟨h1,h2⟩
  ·exact h3.get k
section
variable {P:Program} {B:gN} {nt:Nat}
theorem Holds.AY {tm:Tm} {s:St} {act:Act} {w:World} (os:List Nat) (ff:List (List D)) (bH:Tm) (tY:os.Nodup) (jS : ∀ o∈os,o<s.ah.length) (hn:B.s.ah.length≤os.length)
 (hold : ∀ i,i<B.s.ah.length→os[i]? = some i) (dC : ∀ (i o:Nat),os[i]? = some o→B.s.ah.length≤i→B.s.ah.length≤o) (ho:ff.length=os.length)
 (qj : ∀ (i o:Nat) (ds:List D),os[i]? = some o→ff[i]? = some ds→s.ah[o]? = some (D.eQ os (List.range s.ay.length) ds)∧D.bK os.length s.ay.length ds=true)
 (WM:AX os (List.range s.ay.length) tm bH) (h:Holds B nt tm s act w):Holds B nt bH ⟨ff,s.ay⟩ act w:=by
 obtain⟨M,e,r,hr,h1,h2⟩:=h
 have Ac:(List.range s.ay.length).length=s.ay.length:=List.length_range
 have rg : ∀ (i t:Nat),(List.range s.ay.length)[i]? = some t→i=t:=fun i t h=>by
  rw[List.getElem?_eq_some_iff]at h
  obtain⟨h3,h4⟩:=h
  simpa using h4
 have r0:Rel (gn M os (List.range s.ay.length)) ⟨ff,s.ay⟩ w:=r.sub tY List.nodup_range jS ho (fun i o ds e1 e2=>by rw[Ac];exact qj i o ds e1 e2) Ac.symm (fun i t h=>by rw[rg i t h])
 have loc : ∀ (i:Nat) o,os[i]? = some o→(gn M os (List.range s.ay.length)).loc i=M.loc o:=fun i o h=>by simp only[gn,uq h]
 have be : ∀ t,t<s.ay.length→(gn M os (List.range s.ay.length)).be t=M.be t:=fun t h=>by
  have:(List.range s.ay.length)[t]? = some t:=List.getElem?_range h
  simp only[gn,uq this]
 refine⟨gn M os (List.range s.ay.length),⟨⟨e.le.G,by rw[ho];exact hn,fun o h=>?_,e.le.t,fun t n' h e'=>?_⟩,e.kept,fun o h3 h4=>?_,fun t b c z hl hb=>?_,e.rZ,e.size,e.os,e.tape,e.output⟩,r0,fun k=>?_,h1,h2⟩
 ·rw[loc o o (hold o h)];exact e.le.loc o h
 ·obtain⟨n,g1,g2,g3⟩:=e.le.tk t n' h e'
  exact⟨n,g1,g2,fun eq=>by rw[be t (Nat.lt_of_lt_of_le h e.le.t)];exact g3 eq⟩
 ·simp only at h4
  rw[ho]at h4
  obtain⟨q,hq⟩ : ∃ q,os[o]? = some q:=⟨_,List.getElem?_eq_getElem h4⟩
  have n9:(gn M os (List.range s.ay.length)).mu o=M.mu q:=congrArg Prod.fst (loc o q hq)
  rw[n9]at h3 ⊢
  refine e.rY q ?_ (jS q (List.mem_of_getElem? hq))
  by_cases h5:B.s.ah.length≤o
  ·exact .inl (dC o q hq h5)
  ·have:=hold o (by omega)
   rw[hq]at this
   cases this
   rcases h3 with h3|h3
   ·exact(h5 h3).elim
   ·exact .inr h3
 ·obtain⟨n,sR⟩:=hl
  have hD:=(List.getElem?_eq_some_iff.1 sR).1
  rw[be t hD]at hb
  exact e.qY t b c z ⟨n,sR⟩ hb
 ·rcases WM.get k with h3 | ⟨h3,h4⟩
  ·rw[h3];exact .junk _
  ·exact RD.Bm (M:=M) (M0:=gn M os (List.range s.ay.length)) (s:=s) (s0:=⟨ff,s.ay⟩) rfl loc ho (fun i t h=>by
    have:=rg i t h;subst this;exact be i (by have:=(List.getElem?_eq_some_iff.1 h).1;rwa [Ac]at this)) (fun i t h=>by rw[rg i t h]) Ac.symm (h3 ▸ hr k) _ rfl h4
theorem bl.AY {a:AC} {Q:Exit→Tm→St→Prop} {tm:Tm} {s:St} (os:List Nat) (ff:List (List D)) (bH:Tm) (tY:os.Nodup) (jS : ∀ o∈os,o<s.ah.length) (hn:B.s.ah.length≤os.length)
 (hold : ∀ i,i<B.s.ah.length→os[i]? = some i) (dC : ∀ (i o:Nat),os[i]? = some o→B.s.ah.length≤i→B.s.ah.length≤o) (ho:ff.length=os.length)
 (qj : ∀ (i o:Nat) (ds:List D),os[i]? = some o→ff[i]? = some ds→s.ah[o]? = some (D.eQ os (List.range s.ay.length) ds)∧D.bK os.length s.ay.length ds=true)
 (WM:AX os (List.range s.ay.length) tm bH) (h:bl P B nt a Q bH ⟨ff,s.ay⟩):bl P B nt a Q tm s:=
 fun c hc act w hh=>h c hc act w (hh.AY os ff bH tY jS hn hold dC ho qj WM)
mutual
def D.gk (o g:Nat) (rows:List (List D)):D→D
 | .dD z o' g' len=>if o'=o∧g'=g∧len=rows.length then .slice .shared z rows else .dD z o' g' len
 | .dN row off=> .dN (D.ko o g rows row) off
 | .slice t z rs=> .slice t z (D.tP o g rows rs)
 | .agg cs=> .agg (D.ko o g rows cs)
 | .tuple ds=> .tuple (D.ko o g rows ds)
 | .ie f cs=> .ie f (D.ko o g rows cs)
 | .ptr o off=> .ptr o off
 | .junk=> .junk
 | .int k x=> .int k x
 | .bool b=> .bool b
 | .str l=> .str l
 | .eI=> .eI
 | .val v=> .val v
 | .fS T o=> .fS T o
 | .gR o=> .gR o
 | .fU o g off=> .fU o g off
 | .eW z=> .eW z
def D.ko (o g:Nat) (rows:List (List D)):List D→List D
 | []=> []
 |d::r=>D.gk o g rows d::D.ko o g rows r
def D.tP (o g:Nat) (rows:List (List D)):List (List D)→List (List D)
 | []=> []
 |d::r=>D.ko o g rows d::D.tP o g rows r
end
theorem nh (o g:Nat) (rows:List (List D)) : ∀ l,D.ko o g rows l=l.map (D.gk o g rows)
 | []=>by simp[D.ko]
 |d::r=>by simp[D.ko,nh o g rows r]
theorem Qj (o g:Nat) (rows:List (List D)) : ∀ l,D.tP o g rows l=l.map (D.ko o g rows)
 | []=>by simp[D.tP]
 |d::r=>by simp[D.tP,Qj o g rows r]
theorem RD.gk {M:Map} {s:St} {o g:Nat} {rows:List (List D)} {b cap z:Nat} {A:Nat→Option (Nat×Nat)} (hm:M.ob o = .arr z A) (ha:A g=some (b,cap))
 (hs : ∀ row∈rows,row.length=z) (h1 : ∀ (i:Nat) (row:List D) (j:Nat) (d:D),rows[i]? = some row→row[j]? = some d→∃ u,M.G b (0+(i*z+j))=some u)
 (h2 : ∀ (i:Nat) (row:List D) (j:Nat) (d:D) (u:Value),rows[i]? = some row→row[j]? = some d→M.G b (0+(i*z+j))=some u→RD M s d u)
 {d:D} {v:Value} (h:RD M s d v):RD M s (d.gk o g rows) v:=by
 induction h with
 | dD z' o' g' len b' sc A' ho B2 yl hl=>
  simp only[D.gk]
  split
  ·rename_i hc
   obtain⟨rfl,rfl,rfl⟩:=hc
   rw[hm]at B2
   cases B2
   rw[ha]at yl
   cases yl
   exact .slice .shared z rows b 0 cap hl hs h1 h2 trivial
  ·exact .dD z' o' g' len b' sc A' ho B2 yl hl
 |fU z' o' g' off b' sc A' ho B2 yl=>simp only[D.gk];exact .fU z' o' g' off b' sc A' ho B2 yl
 |eW z a=>simp only[D.gk];exact .eW z a
 |junk v=>simp only[D.gk];exact .junk v
 |int k x=>simp only[D.gk];exact .int k x
 |bool b=>simp only[D.gk];exact .bool b
 |str l=>simp only[D.gk];exact .str l
 |eI=>simp only[D.gk];exact .eI
 |val v hv=>simp only[D.gk];exact .val v hv
 |fS T o v h ht hv=>simp only[D.gk];exact .fS T o v h ht hv
 |gR o h hm=>simp only[D.gk];exact .gR o h hm
 |ptr o off h hm=>simp only[D.gk];exact .ptr o off h hm
 |ie f ds vs hl _ ih=>
  simp only[D.gk,nh]
  refine .ie f _ vs (by simpa using hl) (fun i d v e1 e2=>?_)
  simp only[List.getElem?_map,Option.map_eq_some_iff]at e1
  obtain⟨d',e1,rfl⟩:=e1
  exact ih i d' v e1 e2
 | dN row off b k h1 h2 ih=>
  simp only[D.gk,nh]
  refine .dN _ off b k (fun i d e=>?_) (fun i d u e eu=>?_)
  ·simp only [List.getElem?_map,Option.map_eq_some_iff]at e
   obtain⟨d',e,rfl⟩:=e
   exact h1 i d' e
  ·simp only [List.getElem?_map,Option.map_eq_some_iff]at e
   obtain⟨d',e,rfl⟩:=e
   exact ih i d' u e eu
 |jy t z cap hc ht=>simp only[D.gk,D.tP];exact .jy _ z cap hc ht
 |mD z a cap=>simp only[D.gk,D.tP];exact .mD z a cap
 | slice t z rs b k cap hl hs h1 h2 ht ih=>
  simp only[D.gk,Qj]
  have hlen:(rs.map (D.ko o g rows)).length=rs.length:=by simp
  have key:=RD.slice (M:=M) (s:=s) t z (rs.map (D.ko o g rows)) b k cap (by rw[hlen];exact hl) (fun row hr=>by
   obtain⟨lh,h',rfl⟩:=List.mem_map.1 hr
   rw[nh,List.length_map];exact hs lh h')
   (fun i row j d e1 e2=>by
    simp only[List.getElem?_map,Option.map_eq_some_iff]at e1
    obtain⟨lh,e1,rfl⟩:=e1
    rw[nh]at e2
    simp only[List.getElem?_map,Option.map_eq_some_iff]at e2
    obtain⟨d',e2,rfl⟩:=e2
    exact h1 i lh j d' e1 e2)
   (fun i row j d u e1 e2 eu=>by
    simp only[List.getElem?_map,Option.map_eq_some_iff]at e1
    obtain⟨lh,e1,rfl⟩:=e1
    rw[nh]at e2
    simp only[List.getElem?_map,Option.map_eq_some_iff]at e2
    obtain⟨d',e2,rfl⟩:=e2
    exact ih i lh j d' u e1 e2 eu)
   (by rw[hlen];exact ht)
  rw[hlen]at key
  exact key
 |agg cells vs hl h1 _ ih=>
  simp only[D.gk,nh]
  refine .agg _ vs (by simpa using hl) h1 (fun i d v e1 e2=>?_)
  simp only[List.getElem?_map,Option.map_eq_some_iff]at e1
  obtain⟨d',e1,rfl⟩:=e1
  exact ih i d' v e1 e2
 |tuple ds vs hl _ ih=>
  simp only[D.gk,nh]
  refine .tuple _ vs (by simpa using hl) (fun i d v e1 e2=>?_)
  simp only[List.getElem?_map,Option.map_eq_some_iff]at e1
  obtain⟨d',e1,rfl⟩:=e1
  exact ih i d' v e1 e2
def Ck (o g:Nat) (rows:List (List D)) (n m:Nat) (ds:List D):List D:=D.gT n m (D.ko o g rows ds)
def HN (o g:Nat) (rows:List (List D)) (m:Nat) (tm:Tm):Tm→Prop
 | []=>True
 |(k,d)::r=>Wk (((tm.get k).gk o g rows).fg o m) d∧HN o g rows m tm r
theorem HN.get {o g m:Nat} {rows:List (List D)} {tm:Tm} : ∀ {bH:Tm},HN o g rows m tm bH→∀ t,Wk (((tm.get t).gk o g rows).fg o m) (bH.get t)
 | [],_,t=>Wk.junk _
 |(k,d)::r,h,t=>by
  simp only[Tm.get]
  split
  ·rename_i hk;subst hk;exact h.1
  ·exact HN.get h.2 t
theorem Holds.TA {tm:Tm} {s:St} {act:Act} {w:World} (o g z:Nat) (rows:List (List D)) (bH:Tm) (ff:List (List D)) (hn:B.s.ah.length≤o) (er:s.ah[o]? = some (.int .i64 (g:Int)::rows.flatten)) (hz : ∃ k l,tm.get k = .dD z o g l∨∃ (q:Nat) (ds:List D),s.ah[q]? = some ds∧ds[k]? = some (.dD z o g l))
 (hs : ∀ row∈rows,row.length=z) (ht:HN o g rows s.ay.length tm bH) (qj:gY ((s.ah.take o).map (Ck o g rows o s.ay.length)) ff)
 (h:Holds B nt tm s act w):Holds B nt bH ⟨ff,s.ay⟩ act w:=by
 obtain⟨M,e,r,hr,h1,h2⟩:=h
 have xH:o<s.ah.length:=(List.getElem?_eq_some_iff.1 er).1
 obtain⟨A,hm⟩ : ∃ A,M.ob o = .arr z A:=by
  obtain⟨k,l,hz|⟨q,ds,hq,hz⟩⟩:=hz
  ·have:=hr k
   rw[hz]at this
   obtain⟨_,_,A,_,_,hm,_⟩:=this.uh
   exact⟨A,hm⟩
  ·obtain⟨vs,T,_,dO,_,jz⟩:=r.obj q ds hq
   have hD:=(List.getElem?_eq_some_iff.1 hz).1
   obtain⟨_,_,A,_,_,hm,_⟩:=(jz k _ _ hz (Array.getElem?_eq_getElem (by omega))).uh
   exact⟨A,hm⟩
 have ha:lQ s o g=some rows.flatten:=by unfold lQ;rw[er];simp
 obtain⟨us,T,cap,hh,xc,CX,dO,hle,gD,jz⟩:=r.Ir hm ha
 obtain⟨jj,_⟩:=xk hs
 have VZ : ∀ q,M.G (M.mu o) q=none:=r.jX o xH
 have u5:B.w.heap.size≤M.mu o:=e.rY o (.inl hn) xH
 let M':Map:= {M with G:=fun b q=>if b=M.mu o then us[q]? else M.G b q}
 have mF : ∀ b,b≠M.mu o→∀ q,M'.G b q=M.G b q:=fun b hb q=>if_neg hb
 have le:Le M s M' s:=⟨fun b q v hq=>by
  by_cases hb:b=M.mu o
  ·subst hb;rw[VZ]at hq;cases hq
  ·rw[mF b hb];exact hq,Nat.le_refl _,fun _ _=> .refl _,Nat.le_refl _,fun t n' _ e=>⟨n',e,Nat.le_refl _,fun _=>rfl⟩⟩
 -- the rows are among the cells
 have ix : ∀ (i:Nat) (row:List D) (j:Nat) (d:D),rows[i]? = some row→row[j]? = some d→rows.flatten[i*z+j]? = some d:=by
  have gen : ∀ (rows:List (List D)),(∀ row∈rows,row.length=z)→∀ (i:Nat) (row:List D) (j:Nat) (d:D),rows[i]? = some row→row[j]? = some d→rows.flatten[i*z+j]? = some d:=by
   intro rows
   induction rows with
   |nil=>intro _ i row j d e1;simp at e1
   | cons a rows ih=>
    intro hs i row j d e1 e2
    have s6:=hs a (List.mem_cons_self ..)
    rw[List.flatten_cons]
    cases i with
    |zero=>
     simp at e1;subst e1
     rw[Nat.zero_mul,Nat.zero_add,List.getElem?_append_left (List.getElem?_eq_some_iff.1 e2).1];exact e2
    |succ i=>
     rw[List.getElem?_append_right (by rw[Nat.add_mul];omega),s6,show(i+1)*z+j - z=i*z+j by rw[Nat.add_mul];omega]
     exact ih (fun q hq=>hs q (List.mem_cons_of_mem _ hq)) i row j d (by simpa using e1) e2
  exact gen rows hs
 have g1 : ∀ (i:Nat) (row:List D) (j:Nat) (d:D),rows[i]? = some row→row[j]? = some d→∃ u,M'.G (M.mu o) (0+(i*z+j))=some u:=fun i row j d e1 e2=>by
  have hD:=(List.getElem?_eq_some_iff.1 (ix i row j d e1 e2)).1
  refine⟨us[i*z+j]'(by omega), ?_⟩
  show(if M.mu o=M.mu o then us[0+(i*z+j)]? else _)=_
  rw[if_pos rfl,Nat.zero_add]
  exact Array.getElem?_eq_getElem _
 have g2 : ∀ (i:Nat) (row:List D) (j:Nat) (d:D) (u:Value),rows[i]? = some row→row[j]? = some d→M'.G (M.mu o) (0+(i*z+j))=some u→RD M' s d u:=fun i row j d u e1 e2 eu=>by
  have Cj:(if M.mu o=M.mu o then us[0+(i*z+j)]? else M.G (M.mu o) (0+(i*z+j)))=some u:=eu
  rw[if_pos rfl,Nat.zero_add]at Cj
  exact(jz _ d u (ix i row j d e1 e2) Cj).mono le
 have conv : ∀ {d:D} {v:Value},RD M s d v→RD M' (s.cut o s.ay.length) ((d.gk o g rows).fg o s.ay.length) v:=fun hd=>((hd.mono le).gk (M:=M') hm xc hs g1 g2).fg o s.ay.length
 have rc:=r.cut o s.ay.length
 have ec:=e.cut hn e.le.t
 have hD : ∀ q,q<(s.cut o s.ay.length).ah.length→q<s.ah.length∧q≠o:=fun q h=>by rw[lF]at h;omega
 have P3:(s.cut o s.ay.length).ay=s.ay:=by simp[St.cut]
 have hlen:ff.length=min o s.ah.length:=by rw[← qj.len];simp
 have V0:Le M (s.cut o s.ay.length) M' (s.cut o s.ay.length):=⟨le.G,Nat.le_refl _,fun _ _=> .refl _,Nat.le_refl _,fun t n' _ e=>⟨n',e,Nat.le_refl _,fun _=>rfl⟩⟩
 have les:Le M' (s.cut o s.ay.length) M' ⟨ff,s.ay⟩:=⟨fun _ _ _ h=>h,by rw[lF];simp only;omega,fun _ _=> .refl _,by simp[St.cut],fun t n' _ e=>⟨n',by rw[P3];exact e,Nat.le_refl _,fun _=>rfl⟩⟩
 refine⟨M',⟨(ec.le.trans V0).trans les,ec.kept,fun q h3 h4=>?_,fun t b c z hl hb=>?_,fun b q fm=>?_,ec.size,ec.os,ec.tape,ec.output⟩,⟨fun b q v hq=>?_,fun q ds hq=>?_,fun q hq sb=>?_,fun q q' hq kW=>?_,fun t n' Jr=>?_,fun t b c z q hl hb hq=>?_,fun t t' b c z c' z' hl oc=>?_⟩,fun k=>?_,h1,h2⟩
 ·exact ec.rY q h3 (by rw[lF];simp only[hlen]at h4;exact h4)
 ·exact ec.qY t b c z (by obtain⟨n,hn⟩:=hl;exact⟨n,by rw[P3];exact hn⟩) hb
 ·by_cases hb:b=M.mu o
  ·subst hb;exact .inl u5
  ·rw[mF b hb]at fm;exact ec.rZ b q fm
 ·have kW:(if b=M.mu o then us[q]? else M.G b q)=some v:=hq
  by_cases hb:b=M.mu o
  ·rw [if_pos hb]at kW
   rw[hb,jo hh]
   exact⟨kW,gD v (Array.mem_of_getElem? kW)⟩
  ·rw [if_neg hb]at kW
   exact r.comm b q v kW
 ·have E4:=(List.getElem?_eq_some_iff.1 hq).1
  have vn:q<o:=by simp only[hlen]at E4;omega
  have hqs:q<s.ah.length:=by omega
  obtain⟨Mq,ahL⟩ : ∃ Mq,s.ah[q]? = some Mq:=⟨_,List.getElem?_eq_getElem hqs⟩
  obtain⟨vs,T',h3,h4,h5,h6⟩:=r.obj q Mq ahL
  obtain⟨r1,vA,hw⟩:=qj.get hq
  have at6:r1=Ck o g rows o s.ay.length Mq:=by
   rw[List.getElem?_map,List.getElem?_take_of_lt vn,ahL]at vA
   simpa using vA.symm
  subst at6
  refine⟨vs,T',h3,by rw[← hw.len];simp[Ck,lM,nh,h4],h5,fun i d v e1 e2=>?_⟩
  obtain⟨d1,DE,hwd⟩:=hw.get e1
  simp only[Ck,lM,nh,List.getElem?_map,Option.map_eq_some_iff]at DE
  obtain⟨d2,⟨d3,hd3,rfl⟩,rfl⟩:=DE
  exact(hwd _ _ _ (conv (h6 i d3 v hd3 e2))).mono les
 ·have E4:q<o:=by simp only [hlen]at hq;omega
  show M'.G (M.mu q) sb=none
  rw[mF _ (fun e=>by have:=r.inj q o (by omega) xH e;omega)]
  exact r.jX q (by omega) sb
 ·simp only [hlen]at hq kW
  exact r.inj q q' (by omega) (by omega)
 ·rcases r.tok t n' Jr with h3 | ⟨b,cap,z,gb,T',h3,h4,h5,h6,h7⟩
  ·exact .inl h3
  ·refine .inr ⟨b,cap,z,gb,T',h3,h4,h5,h6,fun sb Bp=> ?_,h7.2⟩
   rw[mF _ (fun e=>r.fy t b cap z o ⟨n',Jr⟩ h3 xH e.symm)]
   exact h7.1 sb Bp
 ·simp only [hlen]at hq
  exact r.fy t b c z q hl hb (by omega)
 ·exact r.gL t t' b c z c' z' hl oc
 ·exact(ht.get k _ _ _ (conv (hr k))).mono les
theorem bl.TA {a:AC} {Q:Exit→Tm→St→Prop} {tm:Tm} {s:St} (o g z:Nat) (rows:List (List D)) (bH:Tm) (ff:List (List D)) (hn:B.s.ah.length≤o) (er:s.ah[o]? = some (.int .i64 (g:Int)::rows.flatten)) (hz : ∃ k l,tm.get k = .dD z o g l∨∃ (q:Nat) (ds:List D),s.ah[q]? = some ds∧ds[k]? = some (.dD z o g l))
 (hs : ∀ row∈rows,row.length=z) (ht:HN o g rows s.ay.length tm bH) (qj:gY ((s.ah.take o).map (Ck o g rows o s.ay.length)) ff)
 (h:bl P B nt a Q bH ⟨ff,s.ay⟩):bl P B nt a Q tm s:=fun c hc act w hh=>h c hc act w (hh.TA o g z rows bH ff hn er hz hs ht qj)
end
end Go.Abs
