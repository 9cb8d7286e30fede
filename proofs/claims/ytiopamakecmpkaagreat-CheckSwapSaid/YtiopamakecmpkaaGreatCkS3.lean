/-
  What is proved here: part 3 of the road to the claim (Nm1, Nm2, Nm3, MayEq2, Tree1, Tree2, Sc1, Sc2, Sc3, ScP, Sc4, Rng, FineM, Sc5, Ar1, Ar2, Ar3, Srt1, Shelf, SortR, SrtP, Tc1, Tc2, Tc3, Bsl, Tc4, Tc5, Tc6, Tc7, ScPr, FlP, JmpP, Jm1, Jm2, Jm3, Rj1, Rj2, Swap0, Swap2p, ToP, Al1, Al2, Al3, Prs3, Prs4).
  No conditions.
-/
import Derived.Test.YtiopamakecmpkaaGreatCkS2
import Derived.Shelf.Small.Bits
import Derived.Shelf.Strconv.Itoa0
import Derived.Shelf.Sort.Plain
import Derived.Shelf.Slices.Turned
import Derived.Ground.Names2Prog
import Derived.Shelf.Slices.Clone
import Derived.Shelf.Slices.CompactS
import Derived.Shelf.Slices.Cells
import Derived.Shelf.Slices.In.SortNone
import Derived.Ground.SlgnProg
import Derived.Shelf.SlicesE.Clone
import Derived.Test.YtiopamakecmpkaaGreatProg
import Derived.Sort.Walk0

set_option linter.unusedSimpArgs false
set_option linter.unusedVariables false

/-! Nm1 -/

namespace Go.Abs
set_option maxRecDepth 8000
open Go.Proofs
mutual
def Ex.kf (out:List ay):Ex→List ay
 | ⟨op,_,name,kids⟩=>Ex.jo (if op==2 && !(dW out name)then out++ [name]else out) kids
def Ex.jo (out:List ay):List Ex→List ay
 | []=>out
 | x::l=>Ex.jo (Ex.kf out x) l
end
def Ex.names (x:Ex):List ay:=if x.may then x.kf []else []
mutual
theorem qQ (out:List ay) : ∀ x:Ex,(Ex.kf out x).length≤out.length+x.size
 | ⟨op,n,name,kids⟩=>by
  simp only [Ex.kf,Ex.size]
  have h:=Eb (if op==2 && !(dW out name)then out++ [name]else out) kids
  refine Nat.le_trans h ?_
  split <;> simp <;> omega
theorem Eb (out:List ay) : ∀ l:List Ex,(Ex.jo out l).length≤out.length+Ex.aW l
 | []=>by simp [Ex.jo,Ex.aW]
 | x::l=>by
  simp only [Ex.jo,Ex.aW]
  have h1:=qQ out x
  have h2:=Eb (Ex.kf out x) l
  omega
end
def q9 (out:List ay) (x:ay):List ay:=if dW out x then out else out++ [x]
def ac4 (x:ay):List ay→Bool
 | []=>false
 | s::l=>if s==x then true else ac4 x l
abbrev OH (N:Nat):Prop:=∀ (x:Ex),x.size≤N→∀ out:List ay,out.length+x.size≤1000000000→∀ {s:St} {t:Nat},s.aC[t]? = some (some out.length)→
 aD Tryz.prog gY [.agg (bo x), .slice (.tok t) 1 (out.map encStr)] s (.slice (.tok t) 1 ((x.kf out).map encStr)) ⟨s.aA,s.aC.set t (some (x.kf out).length)⟩
theorem Zs {N:Nat} (ih:OH N) {op m:Int} {name:ay} {kids:List Ex} (h:Ex.size ⟨op,m,name,kids⟩≤N+1) {out:List ay} (ho:out.length+Ex.size ⟨op,m,name,kids⟩≤1000000000) :
 aD Tryz.prog gY [.agg (bo ⟨op,m,name,kids⟩), .slice (.tok 0) 1 (out.map encStr)] ⟨[],[some out.length]⟩ (.slice (.tok 0) 1 ((Ex.kf out ⟨op,m,name,kids⟩).map encStr)) ⟨[],[some (Ex.kf out ⟨op,m,name,kids⟩).length]⟩:=by
 obtain⟨R,hG⟩ : ∃ R,Ex.kf out ⟨op,m,name,kids⟩=R:=⟨_,rfl⟩
 rw [hG]
 simp only [Ex.kf]at hG
 simp only [Ex.size]at h ho
 have hlen:kids.length<1000000000:=by have:=Ex.da kids;omega
 have hk : ∀ y∈kids,∀ out:List ay,out.length+y.size≤1000000000→∀ {s:St} {t:Nat},s.aC[t]? = some (some out.length)→
  aD Tryz.prog gY [.agg (bo y), .slice (.tok t) 1 (out.map encStr)] s (.slice (.tok t) 1 ((y.kf out).map encStr)) ⟨s.aA,s.aC.set t (some (y.kf out).length)⟩:=fun y hy out ho=>
  ih y (by have:=Ex.bW hy;omega) out ho
 refine aD.go qg rfl fun B Q hB hQ=> ?_
 have⟨hP,hY,hZ,gA⟩:=bw
 have hZ:(out.length+1)*17≤bx:=by unfold bx;omega
 rcases Bool.eq_false_or_eq_true (op==2)with b1 | b1
 ·rcases Bool.eq_false_or_eq_true (dW out name)with b2 | b2
  ·simp only [b1,b2,Bool.not_true,Bool.and_false,Bool.false_eq_true,if_false]at hG
   repeat' (first
 | simp only [go_sem,hP,hY,hZ,gA,b1,b2]
 | (with_reducible refine CU (iI (l:=out) (by omega) name _ _) ?_)
 | (with_reducible refine aF hQ ?_;simp only [az,aB,Option.some.injEq,exists_eq_left',go_sem,hP,hY,hZ,gA];repeat' (first | exact Ok.out | with_reducible refine aG ?_ ?_ | (simp;done))))
   refine cM 1 1 (bj.ind (ι:=List Ex×Nat×List ay×Nat) (fun i=>kids.drop i.2.1=i.1∧Ex.jo i.2.2.1 i.1=R∧i.2.2.1.length+Ex.aW i.1≤1000000000∧i.2.2.2=i.2.2.1.length) (fun i=>i.1.length)
    (fun i=> [(1, .slice (.tok 0) 1 (i.2.2.1.map encStr)),(2, .ptr 0 0),(23, .slice .shared 4 (kids.map bo)),(24, .int .i64 (kids.length:Int)),(25, .int .i64 (i.2.1:Int))]) (fun i=>⟨[bo ⟨op,m,name,kids⟩],[some i.2.2.2]⟩) ?_ (kids,0,out,out.length) ⟨rfl,hG,by simp;omega,by simp⟩)
   rintro⟨rest,k,cr,n'⟩ ⟨h1,h2,h3,h4⟩ IH
   dsimp only at h1 h2 h3 h4
   subst h4
   cases rest with
   | nil=>
    have hP:=drop_nil h1
    simp only [Ex.jo]at h2
    subst h2
    repeat' (first
 | simp only [go_sem,hP,hY,hZ,gA]
 | (with_reducible refine aF hQ ?_;simp only [az,aB,Option.some.injEq,exists_eq_left',go_sem,hP,hY,hZ,gA];repeat' (first | exact Ok.out | with_reducible refine aG ?_ ?_ | (simp;done))))
   | cons y rest=>
    obtain⟨hY,g2,hP,g4⟩:=drop_cons h1
    have cz:k<4611686018427387904:=by omega
    simp only [Ex.jo]at h2
    simp only [Ex.aW]at h3
    have hy:=fun {s:St} {t:Nat} (ht:s.aC[t]? = some (some cr.length))=>hk y (List.mem_of_getElem? hY) cr (by omega) ht
    have hl:=qQ cr y
    repeat' (first
 | simp only [go_sem,hP,hY,hZ,gA]
 | (with_reducible refine CU (hy (by with_unfolding_all rfl)) ?_)
 | (with_reducible refine aF hQ ?_;simp only [az,aB,Option.some.injEq,exists_eq_left',go_sem,hP,hY,hZ,gA];repeat' (first | exact Ok.out | with_reducible refine aG ?_ ?_ | (simp;done))))
    refine eo 1 1 ?_ ?_ (IH (rest,k+1,_,_) ⟨g2,h2,by dsimp only;omega,rfl⟩ (Nat.lt_succ_self _))
    ·(simp only [go_sem,hP,hY,hZ,gA,aN cz];try exact bQ)
    ·(simp only [go_sem,hP,hY,hZ,gA,aN cz];try exact bQ)
  ·simp only [b1,b2,Bool.not_false,Bool.and_true,if_true]at hG
   repeat' (first
 | simp only [go_sem,hP,hY,hZ,gA,b1,b2]
 | (with_reducible refine CU (iI (l:=out) (by omega) name _ _) ?_)
 | (with_reducible refine aF hQ ?_;simp only [az,aB,Option.some.injEq,exists_eq_left',go_sem,hP,hY,hZ,gA];repeat' (first | exact Ok.out | with_reducible refine aG ?_ ?_ | (simp;done))))
   refine eo 1 1 ?_ ?_ (bj.ind (ι:=List Ex×Nat×List ay×Nat) (fun i=>kids.drop i.2.1=i.1∧Ex.jo i.2.2.1 i.1=R∧i.2.2.1.length+Ex.aW i.1≤1000000000∧i.2.2.2=i.2.2.1.length) (fun i=>i.1.length)
    (fun i=> [(1, .slice (.tok 0) 1 (i.2.2.1.map encStr)),(2, .ptr 0 0),(23, .slice .shared 4 (kids.map bo)),(24, .int .i64 (kids.length:Int)),(25, .int .i64 (i.2.1:Int))]) (fun i=>⟨[bo ⟨op,m,name,kids⟩],[some i.2.2.2]⟩) ?_ (kids,0,(out++ [name]),(out.length+1)) ⟨rfl,hG,by simp;omega,by simp⟩)
   ·(simp only [go_sem,hP,hY,hZ,gA,List.map_append,List.map_cons,List.map_nil,List.length_append,List.length_cons,List.length_nil,encStr];try exact bQ)
   ·(simp only [go_sem,hP,hY,hZ,gA,List.map_append,List.map_cons,List.map_nil,List.length_append,List.length_cons,List.length_nil,encStr];try exact bQ)
   rintro⟨rest,k,cr,n'⟩ ⟨h1,h2,h3,h4⟩ IH
   dsimp only at h1 h2 h3 h4
   subst h4
   cases rest with
   | nil=>
    have hP:=drop_nil h1
    simp only [Ex.jo]at h2
    subst h2
    repeat' (first
 | simp only [go_sem,hP,hY,hZ,gA]
 | (with_reducible refine aF hQ ?_;simp only [az,aB,Option.some.injEq,exists_eq_left',go_sem,hP,hY,hZ,gA];repeat' (first | exact Ok.out | with_reducible refine aG ?_ ?_ | (simp;done))))
   | cons y rest=>
    obtain⟨hY,g2,hP,g4⟩:=drop_cons h1
    have cz:k<4611686018427387904:=by omega
    simp only [Ex.jo]at h2
    simp only [Ex.aW]at h3
    have hy:=fun {s:St} {t:Nat} (ht:s.aC[t]? = some (some cr.length))=>hk y (List.mem_of_getElem? hY) cr (by omega) ht
    have hl:=qQ cr y
    repeat' (first
 | simp only [go_sem,hP,hY,hZ,gA]
 | (with_reducible refine CU (hy (by with_unfolding_all rfl)) ?_)
 | (with_reducible refine aF hQ ?_;simp only [az,aB,Option.some.injEq,exists_eq_left',go_sem,hP,hY,hZ,gA];repeat' (first | exact Ok.out | with_reducible refine aG ?_ ?_ | (simp;done))))
    refine eo 1 1 ?_ ?_ (IH (rest,k+1,_,_) ⟨g2,h2,by dsimp only;omega,rfl⟩ (Nat.lt_succ_self _))
    ·(simp only [go_sem,hP,hY,hZ,gA,aN cz];try exact bQ)
    ·(simp only [go_sem,hP,hY,hZ,gA,aN cz];try exact bQ)
 ·simp only [b1,Bool.false_and,Bool.false_eq_true,if_false]at hG
  repeat' (first
 | simp only [go_sem,hP,hY,hZ,gA,b1]
 | (with_reducible refine aF hQ ?_;simp only [az,aB,Option.some.injEq,exists_eq_left',go_sem,hP,hY,hZ,gA];repeat' (first | exact Ok.out | with_reducible refine aG ?_ ?_ | (simp;done))))
  refine cM 1 1 (bj.ind (ι:=List Ex×Nat×List ay×Nat) (fun i=>kids.drop i.2.1=i.1∧Ex.jo i.2.2.1 i.1=R∧i.2.2.1.length+Ex.aW i.1≤1000000000∧i.2.2.2=i.2.2.1.length) (fun i=>i.1.length)
   (fun i=> [(1, .slice (.tok 0) 1 (i.2.2.1.map encStr)),(2, .ptr 0 0),(23, .slice .shared 4 (kids.map bo)),(24, .int .i64 (kids.length:Int)),(25, .int .i64 (i.2.1:Int))]) (fun i=>⟨[bo ⟨op,m,name,kids⟩],[some i.2.2.2]⟩) ?_ (kids,0,out,out.length) ⟨rfl,hG,by simp;omega,by simp⟩)
  rintro⟨rest,k,cr,n'⟩ ⟨h1,h2,h3,h4⟩ IH
  dsimp only at h1 h2 h3 h4
  subst h4
  cases rest with
  | nil=>
   have hP:=drop_nil h1
   simp only [Ex.jo]at h2
   subst h2
   repeat' (first
 | simp only [go_sem,hP,hY,hZ,gA]
 | (with_reducible refine aF hQ ?_;simp only [az,aB,Option.some.injEq,exists_eq_left',go_sem,hP,hY,hZ,gA];repeat' (first | exact Ok.out | with_reducible refine aG ?_ ?_ | (simp;done))))
  | cons y rest=>
   obtain⟨hY,g2,hP,g4⟩:=drop_cons h1
   have cz:k<4611686018427387904:=by omega
   simp only [Ex.jo]at h2
   simp only [Ex.aW]at h3
   have hy:=fun {s:St} {t:Nat} (ht:s.aC[t]? = some (some cr.length))=>hk y (List.mem_of_getElem? hY) cr (by omega) ht
   have hl:=qQ cr y
   repeat' (first
 | simp only [go_sem,hP,hY,hZ,gA]
 | (with_reducible refine CU (hy (by with_unfolding_all rfl)) ?_)
 | (with_reducible refine aF hQ ?_;simp only [az,aB,Option.some.injEq,exists_eq_left',go_sem,hP,hY,hZ,gA];repeat' (first | exact Ok.out | with_reducible refine aG ?_ ?_ | (simp;done))))
   refine eo 1 1 ?_ ?_ (IH (rest,k+1,_,_) ⟨g2,h2,by dsimp only;omega,rfl⟩ (Nat.lt_succ_self _))
   ·(simp only [go_sem,hP,hY,hZ,gA,aN cz];try exact bQ)
   ·(simp only [go_sem,hP,hY,hZ,gA,aN cz];try exact bQ)
theorem RZ : ∀ N,OH N:=by
 intro N
 induction N with
 | zero=>rintro⟨op,m,name,kids⟩ h;simp only [Ex.size]at h;omega
 | succ N ih=>
  rintro⟨op,m,name,kids⟩ h out ho s t ht
  exact(Zs ih h ho).aeR (pre:= [_]) (post:= []) (by simp only [D.bJ,D.ok,fW];rfl) rfl (eD out) (eD _) ht
abbrev alZ (N:Nat):Prop:=∀ (x:Ex),x.size≤N→∀ out:List ay,out.length+x.size≤1000000000→∀ {s:St} {t:Nat},s.aC[t]? = some (some out.length)→
 aD Tryz.prog IN [.agg (bo x), .slice (.tok t) 1 (out.map encStr)] s (.slice (.tok t) 1 ((x.kf out).map encStr)) ⟨s.aA,s.aC.set t (some (x.kf out).length)⟩
end Go.Abs

/-! Nm2 -/

namespace Go.Abs
set_option maxRecDepth 8000
open Go.Proofs
theorem OI {op m:Int} {name:ay} {kids:List Ex} (h:Ex.form ⟨op,m,name,kids⟩=true) (h2:(op==2)=true):kids = []:=by
 have e:op=2:=by simpa using h2
 subst e
 simp only [Ex.form]at h
 split at h
 ·cases h
 ·rename_i hh
  simp only [Bool.or_eq_true,not_or,bne_iff_ne,ne_eq,Decidable.not_not]at hh
  have:=hh.1.1.1.1
  have e:lg 2=0:=rfl
  rw [e]at this
  exact List.length_eq_zero_iff.1 (by omega)
theorem R0 {op m:Int} {name:ay} {kids:List Ex} (hf:(op==2)=true→kids = []) (ho:Ex.size ⟨op,m,name,kids⟩≤1000000000) (s:St) :
 aD Tryz.prog gY [.agg (bo ⟨op,m,name,kids⟩), .slice .full 0 []] s (.slice .shared 1 ((Ex.kf [] ⟨op,m,name,kids⟩).map encStr)) s:=by
 refine aD.pure ?_ (by simp only [D.bJ,D.ok,fW];rfl) (by simp only [D.ok,Tag.ok,eD];rfl) s
 obtain⟨R,hG⟩ : ∃ R,Ex.kf [] ⟨op,m,name,kids⟩=R:=⟨_,rfl⟩
 rw [hG]
 simp only [Ex.kf]at hG
 simp only [Ex.size]at ho
 have hlen:kids.length<1000000000:=by have:=Ex.da kids;omega
 have hk : ∀ y∈kids,∀ out:List ay,out.length+y.size≤1000000000→∀ {s:St} {t:Nat},s.aC[t]? = some (some out.length)→
  aD Tryz.prog gY [.agg (bo y), .slice (.tok t) 1 (out.map encStr)] s (.slice (.tok t) 1 ((y.kf out).map encStr)) ⟨s.aA,s.aC.set t (some (y.kf out).length)⟩:=fun y hy out ho=>
  RZ y.size y (Nat.le_refl _) out ho
 unfold S0
 rcases Bool.eq_false_or_eq_true (op==2)with b1 | b1
 ·have Zt:=hf b1
  subst Zt
  have e:dW [] name=false:=rfl
  simp only [b1,e,Bool.not_false,Bool.and_true,if_true,Ex.jo,List.nil_append]at hG
  subst hG
  refine aD.go qg rfl fun B Q hB hQ=> ?_
  have⟨hP,hY,hZ,gA⟩:=bw
  have hZ:17≤bx:=by unfold bx;omega
  repeat' (first
 | simp only [go_sem,hP,hY,hZ,gA,b1,List.map_nil,List.map_cons,List.length_nil,encStr,Int.natCast_zero,Int.lt_irrefl,decide_false]
 | (with_reducible refine CU (Hi name _ _ _) ?_)
 | (with_reducible refine bj.uI ?_)
 | (with_reducible refine aF hQ ?_;simp only [az,aB,Option.some.injEq,exists_eq_left',go_sem,hP,hY,hZ,gA];repeat' (first | exact Ok.out | with_reducible refine aG ?_ ?_ | (simp;done))))
 ·simp only [b1,Bool.false_and,Bool.false_eq_true,if_false]at hG
  refine aD.go qg rfl fun B Q hB hQ=> ?_
  have⟨hP,hY,hZ,gA⟩:=bw
  repeat' (first
 | simp only [go_sem,hP,hY,hZ,gA,b1]
 | (with_reducible refine aF hQ ?_;simp only [az,aB,Option.some.injEq,exists_eq_left',go_sem,hP,hY,hZ,gA];repeat' (first | exact Ok.out | with_reducible refine aG ?_ ?_ | (simp;done))))
  refine bj.nT 1 1 rfl ?_
  simp only [go_sem,hP,hY,hZ,gA]
  refine cM 1 1 (bj.ind (ι:=List Ex×Nat×List ay×Nat) (fun i=>kids.drop i.2.1=i.1∧Ex.jo i.2.2.1 i.1=R∧i.2.2.1.length+Ex.aW i.1≤1000000000∧i.2.2.2=i.2.2.1.length) (fun i=>i.1.length)
   (fun i=> [(1, .slice (.tok 0) 1 (i.2.2.1.map encStr)),(2, .ptr 0 0),(23, .slice .shared 4 (kids.map bo)),(24, .int .i64 (kids.length:Int)),(25, .int .i64 (i.2.1:Int))]) (fun i=>⟨[bo ⟨op,m,name,kids⟩],[some i.2.2.2]⟩) ?_ (kids,0,[],0) ⟨rfl,hG,by simp;omega,by simp⟩)
  rintro⟨rest,k,cr,n'⟩ ⟨h1,h2,h3,h4⟩ IH
  dsimp only at h1 h2 h3 h4
  subst h4
  cases rest with
  | nil=>
   have hP:=drop_nil h1
   simp only [Ex.jo]at h2
   subst h2
   repeat' (first
 | simp only [go_sem,hP,hY,hZ,gA]
 | (with_reducible refine aF hQ ?_;simp only [az,aB,Option.some.injEq,exists_eq_left',go_sem,hP,hY,hZ,gA];repeat' (first | exact Ok.out | with_reducible refine aG ?_ ?_ | (simp;done))))
  | cons y rest=>
   obtain⟨hY,g2,hP,g4⟩:=drop_cons h1
   have cz:k<4611686018427387904:=by omega
   simp only [Ex.jo]at h2
   simp only [Ex.aW]at h3
   have hy:=fun {s:St} {t:Nat} (ht:s.aC[t]? = some (some cr.length))=>hk y (List.mem_of_getElem? hY) cr (by omega) ht
   have hl:=qQ cr y
   repeat' (first
 | simp only [go_sem,hP,hY,hZ,gA]
 | (with_reducible refine CU (hy (by with_unfolding_all rfl)) ?_)
 | (with_reducible refine aF hQ ?_;simp only [az,aB,Option.some.injEq,exists_eq_left',go_sem,hP,hY,hZ,gA];repeat' (first | exact Ok.out | with_reducible refine aG ?_ ?_ | (simp;done))))
   refine eo 1 1 ?_ ?_ (IH (rest,k+1,_,_) ⟨g2,h2,by dsimp only;omega,rfl⟩ (Nat.lt_succ_self _))
   ·(simp only [go_sem,hP,hY,hZ,gA,aN cz];try exact bQ)
   ·(simp only [go_sem,hP,hY,hZ,gA,aN cz];try exact bQ)
theorem ma {x:Ex} (hx:x.size≤1000000000) (ht:x.texts) (s:St):aD Tryz.prog qb [.agg (bo x)] s (.slice .shared 1 (x.names.map encStr)) s:=by
 refine aD.pure ?_ (by simp only [D.bJ,D.ok,fW];rfl) (by simp only [D.ok,Tag.ok,eD];rfl) s
 have hm:=fun s=>Cd (x:=x) (by omega) ht s
 simp only [OG]at hm
 unfold Ex.names
 unfold S0
 cases hb:x.may
 ·simp only [hb]at hm
  simp only [Bool.false_eq_true,if_false,List.map_nil]
  refine aD.go wy rfl fun B Q hB hQ=> ?_
  have⟨hP,hY,hZ,gA⟩:=bw
  repeat' (first
 | simp only [go_sem,hP,hY,hZ,gA]
 | (with_reducible refine CU (hm _) ?_)
 | (with_reducible refine aF hQ ?_;simp only [az,aB,Option.some.injEq,exists_eq_left',go_sem,hP,hY,hZ,gA];repeat' (first | exact Ok.out | with_reducible refine aG ?_ ?_ | (simp;done))))
 ·simp only [hb]at hm
  simp only [if_true]
  have hg : ∀ s,aD Tryz.prog gY [.agg (bo x), .slice .full 0 []] s (.slice .shared 1 ((x.kf []).map encStr)) s:=by
   intro s
   obtain⟨op,m,name,kids⟩:=x
   exact R0 (fun h2=>OI (by simp only [Ex.may,Bool.and_eq_true]at hb;exact hb.2) h2) hx s
  refine aD.go wy rfl fun B Q hB hQ=> ?_
  have⟨hP,hY,hZ,gA⟩:=bw
  repeat' (first
 | simp only [go_sem,hP,hY,hZ,gA]
 | (with_reducible refine CU (hm _) ?_)
 | (with_reducible refine CU (hg _) ?_)
 | (with_reducible refine aF hQ ?_;simp only [az,aB,Option.some.injEq,exists_eq_left',go_sem,hP,hY,hZ,gA];repeat' (first | exact Ok.out | with_reducible refine aG ?_ ?_ | (simp;done))))
end Go.Abs

/-! Nm3 -/

namespace Go.Abs
set_option maxRecDepth 8000
open Go.Proofs
def Ar.said (out:List ay):List Ar→List ay
 | []=>out
 | a::l=>Ar.said ((if a.ref then out++ [a.name]else out)++a.x.names) l
def Sm.ra (v:Sm):List ay:=if v.kind != 10 && v.name != []then [v.name]else []
def Sm.said (v:Sm):List ay:=Ar.said (v.ra++v.x.names) v.args
theorem ko (x:Ex):x.names.length≤x.size:=by
 unfold Ex.names
 split
 ·simpa using qQ [] x
 ·exact Nat.zero_le _
def Ar.tP:List Ar→Prop
 | []=>True
 | a::l=>a.x.texts∧Ar.tP l
def Sm.oU (v:Sm):Prop:=v.x.texts∧(∀ a∈v.args,a.x.texts)∧v.x.size+Ar.aW v.args<1000000
theorem jR {l nx:List ay} {n:Nat} (hn:n=l.length) (h:l.length+nx.length≤1000000000) {g:Tag} (o:List (List D)) :
 kA 1 16 (.slice (.tok 0) 1 (l.map encStr)) (.slice g 1 (nx.map encStr)) ⟨o,[some n]⟩=some (.slice (.tok 0) 1 ((l++nx).map encStr),⟨o,[some (l++nx).length]⟩):=by
 subst hn
 have:=QU (size:=1) (bytes:=16) (t:=0) (rows:=l.map encStr) (new:=nx.map encStr) (g:=g) (s:=⟨o,[some l.length]⟩) (by simp only [List.length_map];unfold bx;omega) (by simp)
 rw [this]
 simp
theorem zj {v:Sm} (hv:v.oU) (s:St):aD Tryz.prog p8 [.agg (bd v)] s (.slice .shared 1 (v.said.map encStr)) s:=by
 refine aD.pure ?_ (by simp only [D.bJ,D.ok,nh];rfl) (by simp only [D.ok,Tag.ok,eD];rfl) s
 obtain⟨ht1,OM,ew⟩:=hv
 obtain⟨R,hG⟩ : ∃ R,v.said=R:=⟨_,rfl⟩
 rw [hG]
 simp only [Sm.said]at hG
 have hlen:v.args.length<1000000000:=by have:=Ar.da v.args;omega
 have hx:=fun s=>ma (x:=v.x) (by omega) ht1 s
 have Jt:=ko v.x
 unfold S0
 refine aD.go De rfl fun B Q hB hQ=> ?_
 have⟨hP,hY,hZ,gA⟩:=bw
 have hZ:17≤bx:=by unfold bx;omega
 by_cases hb:(v.kind != 10 && v.name != [])=true
 ·simp only [Sm.ra,hb,if_true]at hG
  rw [Bool.and_eq_true]at hb
  obtain⟨b1,b2⟩:=hb
  have gf:=jR (l:= [v.name]) (nx:=v.x.names) (n:=1) rfl (by simp;omega) (g:= .shared)
  simp only [List.map_append,List.map_cons,List.map_nil,encStr]at gf
  have b3:(v.name == [])=false:=by simpa using b2
  repeat' (first
 | simp only [go_sem,hP,hY,hZ,gA,b1,b2,b3,gf]
 | (with_reducible refine CU (hx _) ?_)
 | (with_reducible refine aF hQ ?_;simp only [az,aB,Option.some.injEq,exists_eq_left',go_sem,hP,hY,hZ,gA];repeat' (first | exact Ok.out | with_reducible refine aG ?_ ?_ | (simp;done))))
  refine eo 1 1 ?_ ?_ (bj.ind (ι:=List Ar×Nat×List ay×Nat) (fun i=>v.args.drop i.2.1=i.1∧Ar.said i.2.2.1 i.1=R∧i.2.2.1.length+Ar.aW i.1≤2000000∧i.2.2.2=i.2.2.1.length) (fun i=>i.1.length)
   (fun i=> [(3, .slice (.tok 0) 1 (i.2.2.1.map encStr)),(1, .ptr 0 0),(25, .slice .shared 6 (v.args.map dR)),(26, .int .i64 (v.args.length:Int)),(27, .int .i64 (i.2.1:Int))]) (fun i=>⟨[bd v],[some i.2.2.2]⟩) ?_ (v.args,0,([v.name]++v.x.names),(v.x.names.length+1)) ⟨rfl,hG,by simp at Jt ⊢;omega,by simp⟩)
  ·(simp only [go_sem,hP,hY,hZ,gA,List.map_append,List.map_cons,List.map_nil,encStr];try exact bQ)
  ·(simp only [go_sem,hP,hY,hZ,gA,List.map_append,List.map_cons,List.map_nil,encStr];try exact bQ)
  rintro⟨rest,k,out,n'⟩ ⟨h1,h2,h3,h4⟩ IH
  dsimp only at h1 h2 h3 h4
  subst h4
  cases rest with
  | nil=>
   have hP:=drop_nil h1
   simp only [Ar.said]at h2
   subst h2
   repeat' (first
 | simp only [go_sem,hP,hY,hZ,gA]
 | (with_reducible refine aF hQ ?_;simp only [az,aB,Option.some.injEq,exists_eq_left',go_sem,hP,hY,hZ,gA];repeat' (first | exact Ok.out | with_reducible refine aG ?_ ?_ | (simp;done))))
  | cons a rest=>
   obtain⟨hY,g2,hP,g4⟩:=drop_cons h1
   have cz:k<4611686018427387904:=by omega
   simp only [Ar.said]at h2
   simp only [Ar.aW]at h3
   have oV:=fun s=>ma (x:=a.x) (by have:=Ar.bW (List.mem_of_getElem? hY);omega) (OM a (List.mem_of_getElem? hY)) s
   have hl:=ko a.x
   have hZ:(out.length+1)*17≤bx:=by unfold bx;omega
   rcases Bool.eq_false_or_eq_true a.ref with b1 | b1
   ·simp only [b1,if_true]at h2
    have gf:=jR (l:=out++ [a.name]) (nx:=a.x.names) (n:=out.length+1) (by simp) (by simp;omega) (g:= .shared)
    simp only [List.map_append,List.map_cons,List.map_nil,encStr]at gf
    repeat' (first
 | simp only [go_sem,hP,hY,hZ,gA,b1,gf]
 | (with_reducible refine CU (oV _) ?_)
 | (with_reducible refine aF hQ ?_;simp only [az,aB,Option.some.injEq,exists_eq_left',go_sem,hP,hY,hZ,gA];repeat' (first | exact Ok.out | with_reducible refine aG ?_ ?_ | (simp;done))))
    refine eo 1 1 ?_ ?_ (IH (rest,k+1,out++ [a.name]++a.x.names,_) ⟨g2,h2,by simp;omega,by simp <;> omega⟩ (Nat.lt_succ_self _))
    ·(simp only [go_sem,hP,hY,hZ,gA,aN cz,List.map_append,List.map_cons,List.map_nil,encStr];try exact bQ)
    ·(simp only [go_sem,hP,hY,hZ,gA,aN cz,List.map_append,List.map_cons,List.map_nil,encStr];try exact bQ)
   ·simp only [b1,Bool.false_eq_true,if_false]at h2
    have gf:=jR (l:=out) (nx:=a.x.names) rfl (by omega) (g:= .shared)
    repeat' (first
 | simp only [go_sem,hP,hY,hZ,gA,b1,gf]
 | (with_reducible refine CU (oV _) ?_)
 | (with_reducible refine aF hQ ?_;simp only [az,aB,Option.some.injEq,exists_eq_left',go_sem,hP,hY,hZ,gA];repeat' (first | exact Ok.out | with_reducible refine aG ?_ ?_ | (simp;done))))
    refine eo 1 1 ?_ ?_ (IH (rest,k+1,out++a.x.names,_) ⟨g2,h2,by simp;omega,by simp <;> omega⟩ (Nat.lt_succ_self _))
    ·(simp only [go_sem,hP,hY,hZ,gA,aN cz];try exact bQ)
    ·(simp only [go_sem,hP,hY,hZ,gA,aN cz];try exact bQ)
 ·simp only [Sm.ra,hb,Bool.false_eq_true,if_false,List.nil_append]at hG
  have uD:(v.kind != 10 && v.name != [])=false:=by simpa using hb
  obtain⟨nx,hnx⟩ : ∃ nx,nx=v.x.names:=⟨_,rfl⟩
  rw [← hnx]at hG Jt
  simp only [← hnx]at hx
  by_cases F2:nx = []
  ·subst F2
   simp only [List.map_nil]at hx
   have gf : ∀ o:List (List D),kA 1 16 (.slice .full 0 []) (.slice .shared 1 []) ⟨o,[]⟩=some (.slice .full 0 [],⟨o,[]⟩):=fun o=>by simp [kA,bx]
   have HB:(v.kind != 10)=false∨(v.kind != 10)=true∧(v.name != [])=false:=by
    cases h1:(v.kind != 10)
    ·exact .inl rfl
    ·rw [h1]at uD;exact .inr ⟨rfl,by simpa using uD⟩
   rcases HB with b1 | ⟨b1,b2⟩
   ·rcases Bool.eq_false_or_eq_true (v.name != [])with b2 | b2
    all_goals
     have b3:(v.name == []) = !(v.name != []):=by simp only [bne,Bool.not_not]
     rw [b2]at b3
     repeat' (first
 | simp only [go_sem,hP,hY,hZ,gA,b1,b2,b3,Bool.not_true,Bool.not_false,gf]
 | (with_reducible refine CU (hx _) ?_)
 | (with_reducible refine aF hQ ?_;simp only [az,aB,Option.some.injEq,exists_eq_left',go_sem,hP,hY,hZ,gA];repeat' (first | exact Ok.out | with_reducible refine aG ?_ ?_ | (simp;done))))
    all_goals
     refine bj.nT 3 1 rfl ?_
     simp only [go_sem,hP,hY,hZ,gA]
     refine cM 1 1 (bj.ind (ι:=List Ar×Nat×List ay×Nat) (fun i=>v.args.drop i.2.1=i.1∧Ar.said i.2.2.1 i.1=R∧i.2.2.1.length+Ar.aW i.1≤2000000∧i.2.2.2=i.2.2.1.length) (fun i=>i.1.length)
      (fun i=> [(3, .slice (.tok 0) 1 (i.2.2.1.map encStr)),(1, .ptr 0 0),(25, .slice .shared 6 (v.args.map dR)),(26, .int .i64 (v.args.length:Int)),(27, .int .i64 (i.2.1:Int))]) (fun i=>⟨[bd v],[some i.2.2.2]⟩) ?_ (v.args,0,[],0) ⟨rfl,hG,by simp at Jt ⊢;omega,by simp⟩)
     rintro⟨rest,k,out,n'⟩ ⟨h1,h2,h3,h4⟩ IH
     dsimp only at h1 h2 h3 h4
     subst h4
     cases rest with
     | nil=>
      have hP:=drop_nil h1
      simp only [Ar.said]at h2
      subst h2
      repeat' (first
 | simp only [go_sem,hP,hY,hZ,gA]
 | (with_reducible refine aF hQ ?_;simp only [az,aB,Option.some.injEq,exists_eq_left',go_sem,hP,hY,hZ,gA];repeat' (first | exact Ok.out | with_reducible refine aG ?_ ?_ | (simp;done))))
     | cons a rest=>
      obtain⟨hY,g2,hP,g4⟩:=drop_cons h1
      have cz:k<4611686018427387904:=by omega
      simp only [Ar.said]at h2
      simp only [Ar.aW]at h3
      have oV:=fun s=>ma (x:=a.x) (by have:=Ar.bW (List.mem_of_getElem? hY);omega) (OM a (List.mem_of_getElem? hY)) s
      have hl:=ko a.x
      have hZ:(out.length+1)*17≤bx:=by unfold bx;omega
      rcases Bool.eq_false_or_eq_true a.ref with b1 | b1
      ·simp only [b1,if_true]at h2
       have gf:=jR (l:=out++ [a.name]) (nx:=a.x.names) (n:=out.length+1) (by simp) (by simp;omega) (g:= .shared)
       simp only [List.map_append,List.map_cons,List.map_nil,encStr]at gf
       repeat' (first
 | simp only [go_sem,hP,hY,hZ,gA,b1,gf]
 | (with_reducible refine CU (oV _) ?_)
 | (with_reducible refine aF hQ ?_;simp only [az,aB,Option.some.injEq,exists_eq_left',go_sem,hP,hY,hZ,gA];repeat' (first | exact Ok.out | with_reducible refine aG ?_ ?_ | (simp;done))))
       refine eo 1 1 ?_ ?_ (IH (rest,k+1,out++ [a.name]++a.x.names,_) ⟨g2,h2,by simp;omega,by simp <;> omega⟩ (Nat.lt_succ_self _))
       ·(simp only [go_sem,hP,hY,hZ,gA,aN cz,List.map_append,List.map_cons,List.map_nil,encStr];try exact bQ)
       ·(simp only [go_sem,hP,hY,hZ,gA,aN cz,List.map_append,List.map_cons,List.map_nil,encStr];try exact bQ)
      ·simp only [b1,Bool.false_eq_true,if_false]at h2
       have gf:=jR (l:=out) (nx:=a.x.names) rfl (by omega) (g:= .shared)
       repeat' (first
 | simp only [go_sem,hP,hY,hZ,gA,b1,gf]
 | (with_reducible refine CU (oV _) ?_)
 | (with_reducible refine aF hQ ?_;simp only [az,aB,Option.some.injEq,exists_eq_left',go_sem,hP,hY,hZ,gA];repeat' (first | exact Ok.out | with_reducible refine aG ?_ ?_ | (simp;done))))
       refine eo 1 1 ?_ ?_ (IH (rest,k+1,out++a.x.names,_) ⟨g2,h2,by simp;omega,by simp <;> omega⟩ (Nat.lt_succ_self _))
       ·(simp only [go_sem,hP,hY,hZ,gA,aN cz];try exact bQ)
       ·(simp only [go_sem,hP,hY,hZ,gA,aN cz];try exact bQ)
   ·have b3:(v.name == [])=true:=by simpa using b2
    repeat' (first
 | simp only [go_sem,hP,hY,hZ,gA,b1,b2,b3,gf]
 | (with_reducible refine CU (hx _) ?_)
 | (with_reducible refine aF hQ ?_;simp only [az,aB,Option.some.injEq,exists_eq_left',go_sem,hP,hY,hZ,gA];repeat' (first | exact Ok.out | with_reducible refine aG ?_ ?_ | (simp;done))))
    refine bj.nT 3 1 rfl ?_
    simp only [go_sem,hP,hY,hZ,gA]
    refine cM 1 1 (bj.ind (ι:=List Ar×Nat×List ay×Nat) (fun i=>v.args.drop i.2.1=i.1∧Ar.said i.2.2.1 i.1=R∧i.2.2.1.length+Ar.aW i.1≤2000000∧i.2.2.2=i.2.2.1.length) (fun i=>i.1.length)
     (fun i=> [(3, .slice (.tok 0) 1 (i.2.2.1.map encStr)),(1, .ptr 0 0),(25, .slice .shared 6 (v.args.map dR)),(26, .int .i64 (v.args.length:Int)),(27, .int .i64 (i.2.1:Int))]) (fun i=>⟨[bd v],[some i.2.2.2]⟩) ?_ (v.args,0,[],0) ⟨rfl,hG,by simp at Jt ⊢;omega,by simp⟩)
    rintro⟨rest,k,out,n'⟩ ⟨h1,h2,h3,h4⟩ IH
    dsimp only at h1 h2 h3 h4
    subst h4
    cases rest with
    | nil=>
     have hP:=drop_nil h1
     simp only [Ar.said]at h2
     subst h2
     repeat' (first
 | simp only [go_sem,hP,hY,hZ,gA]
 | (with_reducible refine aF hQ ?_;simp only [az,aB,Option.some.injEq,exists_eq_left',go_sem,hP,hY,hZ,gA];repeat' (first | exact Ok.out | with_reducible refine aG ?_ ?_ | (simp;done))))
    | cons a rest=>
     obtain⟨hY,g2,hP,g4⟩:=drop_cons h1
     have cz:k<4611686018427387904:=by omega
     simp only [Ar.said]at h2
     simp only [Ar.aW]at h3
     have oV:=fun s=>ma (x:=a.x) (by have:=Ar.bW (List.mem_of_getElem? hY);omega) (OM a (List.mem_of_getElem? hY)) s
     have hl:=ko a.x
     have hZ:(out.length+1)*17≤bx:=by unfold bx;omega
     rcases Bool.eq_false_or_eq_true a.ref with b1 | b1
     ·simp only [b1,if_true]at h2
      have gf:=jR (l:=out++ [a.name]) (nx:=a.x.names) (n:=out.length+1) (by simp) (by simp;omega) (g:= .shared)
      simp only [List.map_append,List.map_cons,List.map_nil,encStr]at gf
      repeat' (first
 | simp only [go_sem,hP,hY,hZ,gA,b1,gf]
 | (with_reducible refine CU (oV _) ?_)
 | (with_reducible refine aF hQ ?_;simp only [az,aB,Option.some.injEq,exists_eq_left',go_sem,hP,hY,hZ,gA];repeat' (first | exact Ok.out | with_reducible refine aG ?_ ?_ | (simp;done))))
      refine eo 1 1 ?_ ?_ (IH (rest,k+1,out++ [a.name]++a.x.names,_) ⟨g2,h2,by simp;omega,by simp <;> omega⟩ (Nat.lt_succ_self _))
      ·(simp only [go_sem,hP,hY,hZ,gA,aN cz,List.map_append,List.map_cons,List.map_nil,encStr];try exact bQ)
      ·(simp only [go_sem,hP,hY,hZ,gA,aN cz,List.map_append,List.map_cons,List.map_nil,encStr];try exact bQ)
     ·simp only [b1,Bool.false_eq_true,if_false]at h2
      have gf:=jR (l:=out) (nx:=a.x.names) rfl (by omega) (g:= .shared)
      repeat' (first
 | simp only [go_sem,hP,hY,hZ,gA,b1,gf]
 | (with_reducible refine CU (oV _) ?_)
 | (with_reducible refine aF hQ ?_;simp only [az,aB,Option.some.injEq,exists_eq_left',go_sem,hP,hY,hZ,gA];repeat' (first | exact Ok.out | with_reducible refine aG ?_ ?_ | (simp;done))))
      refine eo 1 1 ?_ ?_ (IH (rest,k+1,out++a.x.names,_) ⟨g2,h2,by simp;omega,by simp <;> omega⟩ (Nat.lt_succ_self _))
      ·(simp only [go_sem,hP,hY,hZ,gA,aN cz];try exact bQ)
      ·(simp only [go_sem,hP,hY,hZ,gA,aN cz];try exact bQ)
  ·have gf : ∀ o:List (List D),kA 1 16 (.slice .full 0 []) (.slice .shared 1 (nx.map encStr)) ⟨o,[]⟩=some (.slice (.tok 0) 1 (nx.map encStr),⟨o,[some nx.length]⟩):=fun o=>by
    have:nx.length*17≤bx:=by unfold bx;omega
    cases nx with
    | nil=>exact absurd rfl F2
    | cons a r=>simp only [List.length_cons]at this;simp [kA,this]
   have HB:(v.kind != 10)=false∨(v.kind != 10)=true∧(v.name != [])=false:=by
    cases h1:(v.kind != 10)
    ·exact .inl rfl
    ·rw [h1]at uD;exact .inr ⟨rfl,by simpa using uD⟩
   rcases HB with b1 | ⟨b1,b2⟩
   ·rcases Bool.eq_false_or_eq_true (v.name != [])with b2 | b2
    all_goals
     have b3:(v.name == []) = !(v.name != []):=by simp only [bne,Bool.not_not]
     rw [b2]at b3
     repeat' (first
 | simp only [go_sem,hP,hY,hZ,gA,b1,b2,b3,Bool.not_true,Bool.not_false,gf]
 | (with_reducible refine CU (hx _) ?_)
 | (with_reducible refine aF hQ ?_;simp only [az,aB,Option.some.injEq,exists_eq_left',go_sem,hP,hY,hZ,gA];repeat' (first | exact Ok.out | with_reducible refine aG ?_ ?_ | (simp;done))))
    all_goals
     refine cM 1 1 (bj.ind (ι:=List Ar×Nat×List ay×Nat) (fun i=>v.args.drop i.2.1=i.1∧Ar.said i.2.2.1 i.1=R∧i.2.2.1.length+Ar.aW i.1≤2000000∧i.2.2.2=i.2.2.1.length) (fun i=>i.1.length)
      (fun i=> [(3, .slice (.tok 0) 1 (i.2.2.1.map encStr)),(1, .ptr 0 0),(25, .slice .shared 6 (v.args.map dR)),(26, .int .i64 (v.args.length:Int)),(27, .int .i64 (i.2.1:Int))]) (fun i=>⟨[bd v],[some i.2.2.2]⟩) ?_ (v.args,0,nx,_) ⟨rfl,hG,by simp at Jt ⊢;omega,by simp⟩)
     rintro⟨rest,k,out,n'⟩ ⟨h1,h2,h3,h4⟩ IH
     dsimp only at h1 h2 h3 h4
     subst h4
     cases rest with
     | nil=>
      have hP:=drop_nil h1
      simp only [Ar.said]at h2
      subst h2
      repeat' (first
 | simp only [go_sem,hP,hY,hZ,gA]
 | (with_reducible refine aF hQ ?_;simp only [az,aB,Option.some.injEq,exists_eq_left',go_sem,hP,hY,hZ,gA];repeat' (first | exact Ok.out | with_reducible refine aG ?_ ?_ | (simp;done))))
     | cons a rest=>
      obtain⟨hY,g2,hP,g4⟩:=drop_cons h1
      have cz:k<4611686018427387904:=by omega
      simp only [Ar.said]at h2
      simp only [Ar.aW]at h3
      have oV:=fun s=>ma (x:=a.x) (by have:=Ar.bW (List.mem_of_getElem? hY);omega) (OM a (List.mem_of_getElem? hY)) s
      have hl:=ko a.x
      have hZ:(out.length+1)*17≤bx:=by unfold bx;omega
      rcases Bool.eq_false_or_eq_true a.ref with b1 | b1
      ·simp only [b1,if_true]at h2
       have gf:=jR (l:=out++ [a.name]) (nx:=a.x.names) (n:=out.length+1) (by simp) (by simp;omega) (g:= .shared)
       simp only [List.map_append,List.map_cons,List.map_nil,encStr]at gf
       repeat' (first
 | simp only [go_sem,hP,hY,hZ,gA,b1,gf]
 | (with_reducible refine CU (oV _) ?_)
 | (with_reducible refine aF hQ ?_;simp only [az,aB,Option.some.injEq,exists_eq_left',go_sem,hP,hY,hZ,gA];repeat' (first | exact Ok.out | with_reducible refine aG ?_ ?_ | (simp;done))))
       refine eo 1 1 ?_ ?_ (IH (rest,k+1,out++ [a.name]++a.x.names,_) ⟨g2,h2,by simp;omega,by simp <;> omega⟩ (Nat.lt_succ_self _))
       ·(simp only [go_sem,hP,hY,hZ,gA,aN cz,List.map_append,List.map_cons,List.map_nil,encStr];try exact bQ)
       ·(simp only [go_sem,hP,hY,hZ,gA,aN cz,List.map_append,List.map_cons,List.map_nil,encStr];try exact bQ)
      ·simp only [b1,Bool.false_eq_true,if_false]at h2
       have gf:=jR (l:=out) (nx:=a.x.names) rfl (by omega) (g:= .shared)
       repeat' (first
 | simp only [go_sem,hP,hY,hZ,gA,b1,gf]
 | (with_reducible refine CU (oV _) ?_)
 | (with_reducible refine aF hQ ?_;simp only [az,aB,Option.some.injEq,exists_eq_left',go_sem,hP,hY,hZ,gA];repeat' (first | exact Ok.out | with_reducible refine aG ?_ ?_ | (simp;done))))
       refine eo 1 1 ?_ ?_ (IH (rest,k+1,out++a.x.names,_) ⟨g2,h2,by simp;omega,by simp <;> omega⟩ (Nat.lt_succ_self _))
       ·(simp only [go_sem,hP,hY,hZ,gA,aN cz];try exact bQ)
       ·(simp only [go_sem,hP,hY,hZ,gA,aN cz];try exact bQ)
   ·have b3:(v.name == [])=true:=by simpa using b2
    repeat' (first
 | simp only [go_sem,hP,hY,hZ,gA,b1,b2,b3,gf]
 | (with_reducible refine CU (hx _) ?_)
 | (with_reducible refine aF hQ ?_;simp only [az,aB,Option.some.injEq,exists_eq_left',go_sem,hP,hY,hZ,gA];repeat' (first | exact Ok.out | with_reducible refine aG ?_ ?_ | (simp;done))))
    refine cM 1 1 (bj.ind (ι:=List Ar×Nat×List ay×Nat) (fun i=>v.args.drop i.2.1=i.1∧Ar.said i.2.2.1 i.1=R∧i.2.2.1.length+Ar.aW i.1≤2000000∧i.2.2.2=i.2.2.1.length) (fun i=>i.1.length)
     (fun i=> [(3, .slice (.tok 0) 1 (i.2.2.1.map encStr)),(1, .ptr 0 0),(25, .slice .shared 6 (v.args.map dR)),(26, .int .i64 (v.args.length:Int)),(27, .int .i64 (i.2.1:Int))]) (fun i=>⟨[bd v],[some i.2.2.2]⟩) ?_ (v.args,0,nx,_) ⟨rfl,hG,by simp at Jt ⊢;omega,by simp⟩)
    rintro⟨rest,k,out,n'⟩ ⟨h1,h2,h3,h4⟩ IH
    dsimp only at h1 h2 h3 h4
    subst h4
    cases rest with
    | nil=>
     have hP:=drop_nil h1
     simp only [Ar.said]at h2
     subst h2
     repeat' (first
 | simp only [go_sem,hP,hY,hZ,gA]
 | (with_reducible refine aF hQ ?_;simp only [az,aB,Option.some.injEq,exists_eq_left',go_sem,hP,hY,hZ,gA];repeat' (first | exact Ok.out | with_reducible refine aG ?_ ?_ | (simp;done))))
    | cons a rest=>
     obtain⟨hY,g2,hP,g4⟩:=drop_cons h1
     have cz:k<4611686018427387904:=by omega
     simp only [Ar.said]at h2
     simp only [Ar.aW]at h3
     have oV:=fun s=>ma (x:=a.x) (by have:=Ar.bW (List.mem_of_getElem? hY);omega) (OM a (List.mem_of_getElem? hY)) s
     have hl:=ko a.x
     have hZ:(out.length+1)*17≤bx:=by unfold bx;omega
     rcases Bool.eq_false_or_eq_true a.ref with b1 | b1
     ·simp only [b1,if_true]at h2
      have gf:=jR (l:=out++ [a.name]) (nx:=a.x.names) (n:=out.length+1) (by simp) (by simp;omega) (g:= .shared)
      simp only [List.map_append,List.map_cons,List.map_nil,encStr]at gf
      repeat' (first
 | simp only [go_sem,hP,hY,hZ,gA,b1,gf]
 | (with_reducible refine CU (oV _) ?_)
 | (with_reducible refine aF hQ ?_;simp only [az,aB,Option.some.injEq,exists_eq_left',go_sem,hP,hY,hZ,gA];repeat' (first | exact Ok.out | with_reducible refine aG ?_ ?_ | (simp;done))))
      refine eo 1 1 ?_ ?_ (IH (rest,k+1,out++ [a.name]++a.x.names,_) ⟨g2,h2,by simp;omega,by simp <;> omega⟩ (Nat.lt_succ_self _))
      ·(simp only [go_sem,hP,hY,hZ,gA,aN cz,List.map_append,List.map_cons,List.map_nil,encStr];try exact bQ)
      ·(simp only [go_sem,hP,hY,hZ,gA,aN cz,List.map_append,List.map_cons,List.map_nil,encStr];try exact bQ)
     ·simp only [b1,Bool.false_eq_true,if_false]at h2
      have gf:=jR (l:=out) (nx:=a.x.names) rfl (by omega) (g:= .shared)
      repeat' (first
 | simp only [go_sem,hP,hY,hZ,gA,b1,gf]
 | (with_reducible refine CU (oV _) ?_)
 | (with_reducible refine aF hQ ?_;simp only [az,aB,Option.some.injEq,exists_eq_left',go_sem,hP,hY,hZ,gA];repeat' (first | exact Ok.out | with_reducible refine aG ?_ ?_ | (simp;done))))
      refine eo 1 1 ?_ ?_ (IH (rest,k+1,out++a.x.names,_) ⟨g2,h2,by simp;omega,by simp <;> omega⟩ (Nat.lt_succ_self _))
      ·(simp only [go_sem,hP,hY,hZ,gA,aN cz];try exact bQ)
      ·(simp only [go_sem,hP,hY,hZ,gA,aN cz];try exact bQ)
end Go.Abs

/-! MayEq2 -/

namespace Go.Abs
theorem kg : ∀ (a b:List It) (n:Nat),It.dT n (a++b)=(It.dT n a && It.dT (n+a.length) b)
 | [],b,n=>by simp [It.dT]
 | i::a,b,n=>by
  simp only [List.cons_append,It.dT,kg a b (n+1),List.length_cons]
  have:n+1+a.length=n+(a.length+1):=by omega
  rw [this]
  split <;> simp
theorem Cm (n:Nat) (i:It):It.dT n [i] = true↔i.s.id=((n+1:Nat):Int)∧i.deep≤12∧i.s.one=true:=by
 simp only [It.dT]
 split
 ·rename_i h
  simp only [Bool.or_eq_true,bne_iff_ne,ne_eq,decide_eq_true_eq,Bool.not_eq_true']at h
  refine⟨fun h=>(Bool.false_ne_true h).elim,fun⟨h1,h2,h3⟩=> ?_⟩
  rcases h with (h | h) | h
  ·exact(h h1).elim
  ·omega
  ·rw [h]at h3;cases h3
 ·rename_i h
  simp only [Bool.or_eq_true,bne_iff_ne,ne_eq,decide_eq_true_eq,Bool.not_eq_true',not_or,Decidable.not_not,Bool.not_eq_false]at h
  exact⟨fun _=>⟨h.1.1,by omega,h.2⟩,fun _=>rfl⟩
mutual
theorem zk (deep bS:Int) (aT:Bool) : ∀ (s:Sm) (out:List It),∃ new,iy deep bS aT out s=out++(⟨s,deep,bS,aT⟩::new)
 | ⟨id,kind,labels,name,proc,x,has,args,aY,e⟩,out=>by
  simp only [iy]
  split
  ·obtain⟨n1,h1⟩:=pG (deep+1) id false aY (out++ [⟨⟨id,kind,labels,name,proc,x,has,args,aY,e⟩,deep,bS,aT⟩])
   obtain⟨n2,h2⟩:=pG (deep+1) id true e (e8 (deep+1) id false (out++ [⟨⟨id,kind,labels,name,proc,x,has,args,aY,e⟩,deep,bS,aT⟩]) aY)
   rw [h2,h1]
   exact⟨n1++n2,by simp⟩
  ·exact⟨[],rfl⟩
theorem pG (deep bS:Int) (aT:Bool) : ∀ (l:List Sm) (out:List It),∃ new,e8 deep bS aT out l=out++new
 | [],out=>⟨[],by simp [e8]⟩
 | s::l,out=>by
  simp only [e8]
  split
  ·obtain⟨n1,h1⟩:=zk deep bS aT s out
   obtain⟨n2,h2⟩:=pG deep bS aT l (iy deep bS aT out s)
   rw [h2,h1]
   exact⟨⟨s,deep,bS,aT⟩::n1++n2,by simp⟩
  ·exact⟨[],by simp⟩
end
theorem Ec {nest:Int} {n:Nat} {s:Sm} (h:(Sm.oE nest n s).1=true) :
 n+1≤200∧s.id=((n+1:Nat):Int)∧s.one=true∧(Sm.fT (nest+1) (n+1) s.aY).1=true∧(Sm.fT (nest+1) (Sm.fT (nest+1) (n+1) s.aY).2 s.aT).1=true∧
 (Sm.oE nest n s).2=(Sm.fT (nest+1) (Sm.fT (nest+1) (n+1) s.aY).2 s.aT).2:=by
 rw [Ds]at h ⊢
 split at h
 ·cases h
 rename_i h1
 simp only [Bool.or_eq_true,bne_iff_ne,ne_eq,decide_eq_true_eq,Bool.not_eq_true',not_or,Decidable.not_not,Bool.not_eq_false]at h1
 split at h
 ·cases h
 rename_i h2
 have v7:(Sm.fT (nest+1) (n+1) s.aY).1=true:=by simpa using h2
 refine⟨by omega,h1.1.1.2, ?_,v7,h, ?_⟩
 ·rw [Cl,h1.1.2,h1.2];rfl
 ·rw [if_neg (by simp only [Bool.or_eq_true,bne_iff_ne,ne_eq,decide_eq_true_eq,Bool.not_eq_true',not_or,Decidable.not_not,Bool.not_eq_false];exact h1),if_neg h2]
theorem rJ {nest:Int} {n:Nat} {l:List Sm} (h:(Sm.fT nest n l).1=true):(l = []∨nest≤12)∧Sm.fT nest n l=Sm.eK nest n l:=by
 unfold Sm.fT gate at *
 split at h
 ·cases h
 ·rename_i hc
  rw [if_neg hc]
  refine⟨?_,rfl⟩
  simp only [Bool.and_eq_true,decide_eq_true_eq,not_and]at hc
  cases l with
  | nil=>exact .inl rfl
  | cons s l=>right;simp only [List.length_cons]at hc;omega
mutual
theorem ON : ∀ (s:Sm) (nest bS:Int) (aT:Bool) (n:Nat) (out:List It),nest≤12→out.length≤n→n≤200→(Sm.oE nest n s).1=true→
 ∃ new,iy nest bS aT out s=out++new∧It.dT n new=true∧n+new.length=(Sm.oE nest n s).2∧(Sm.oE nest n s).2≤200
 | ⟨id,kind,labels,name,proc,x,has,args,aY,e⟩,nest,bS,aT,n,out,OO,ho,hn,h=>by
  obtain⟨h1,h2,h3,h4,h5,h6⟩:=Ec h
  dsimp only at h2 h4 h5 h6
  rw [h6]
  obtain⟨g1,e1⟩:=rJ h4
  rw [e1]at h4 h5 ⊢
  obtain⟨g2,e2⟩:=rJ h5
  rw [e2]at h5 ⊢
  have wF:It.dT n [(⟨⟨id,kind,labels,name,proc,x,has,args,aY,e⟩,nest,bS,aT⟩:It)] = true:=(Cm _ _).2 ⟨h2,OO,h3⟩
  obtain⟨n1,k1,k2,k3,k4⟩:=uU aY (nest+1) id false (n+1) (out++ [⟨⟨id,kind,labels,name,proc,x,has,args,aY,e⟩,nest,bS,aT⟩]) g1 (by simp;omega) h1 h4
  obtain⟨n2,j1,j2,j3,j4⟩:=uU e (nest+1) id true _ (out++ [⟨⟨id,kind,labels,name,proc,x,has,args,aY,e⟩,nest,bS,aT⟩]++n1) g2 (by simp;omega) k4 h5
  simp only [iy]
  rw [if_pos (by simpa using OO),k1,j1]
  refine⟨⟨⟨id,kind,labels,name,proc,x,has,args,aY,e⟩,nest,bS,aT⟩::(n1++n2),by simp, ?_, ?_,j4⟩
  ·have:(⟨⟨id,kind,labels,name,proc,x,has,args,aY,e⟩,nest,bS,aT⟩:It)::(n1++n2) = [⟨⟨id,kind,labels,name,proc,x,has,args,aY,e⟩,nest,bS,aT⟩]++n1++n2:=by simp
   rw [this,kg,kg,wF,Bool.true_and]
   have e3:n+([(⟨⟨id,kind,labels,name,proc,x,has,args,aY,e⟩,nest,bS,aT⟩:It)]++n1).length=(Sm.eK (nest+1) (n+1) aY).2:=by simp;omega
   rw [e3,j2]
   have e4:n + [(⟨⟨id,kind,labels,name,proc,x,has,args,aY,e⟩,nest,bS,aT⟩:It)].length=n+1:=rfl
   rw [e4,k2];rfl
  ·simp only [List.length_cons,List.length_append];omega
theorem uU : ∀ (l:List Sm) (nest bS:Int) (aT:Bool) (n:Nat) (out:List It),(l = []∨nest≤12)→out.length≤n→n≤200→(Sm.eK nest n l).1=true→
 ∃ new,e8 nest bS aT out l=out++new∧It.dT n new=true∧n+new.length=(Sm.eK nest n l).2∧(Sm.eK nest n l).2≤200
 | [],nest,bS,aT,n,out,OO,ho,hn,h=>⟨[],by simp [e8],rfl,by simp [Sm.eK],by simpa [Sm.eK]using hn⟩
 | s::l,nest,bS,aT,n,out,OO,ho,hn,h=>by
  have Zu:nest≤12:=OO.resolve_left (by simp)
  simp only [Sm.eK]at h ⊢
  split at h
  ·cases h
  rename_i hc
  rw [if_neg hc]
  obtain⟨n1,k1,k2,k3,k4⟩:=ON s nest bS aT n out Zu ho hn (by simpa using hc)
  obtain⟨n2,j1,j2,j3,j4⟩:=uU l nest bS aT _ (out++n1) (.inr Zu) (by simp;omega) k4 h
  simp only [e8]
  rw [if_pos (by simp only [decide_eq_true_eq];omega),k1,j1]
  refine⟨n1++n2,by simp, ?_,by simp;omega,j4⟩
  rw [kg,k2,k3,j2];rfl
end
mutual
theorem OP : ∀ (s:Sm) (nest bS:Int) (aT:Bool) (n:Nat) (out new:List It),iy nest bS aT out s=out++new→It.dT n new=true→out.length≤n→n+new.length≤200→
 Sm.oE nest n s=(true,n+new.length)∧nest≤12
 | ⟨id,kind,labels,name,proc,x,has,args,aY,e⟩,nest,bS,aT,n,out,new,qB,hm,ho,hn=>by
  obtain⟨n0,h0⟩:=zk nest bS aT ⟨id,kind,labels,name,proc,x,has,args,aY,e⟩ out
  have e0:new = ⟨⟨id,kind,labels,name,proc,x,has,args,aY,e⟩,nest,bS,aT⟩::n0:=List.append_cancel_left (qB.symm.trans h0)
  subst e0
  have ac5:(⟨⟨id,kind,labels,name,proc,x,has,args,aY,e⟩,nest,bS,aT⟩:It)::n0 = [⟨⟨id,kind,labels,name,proc,x,has,args,aY,e⟩,nest,bS,aT⟩]++n0:=rfl
  rw [ac5,kg,Bool.and_eq_true]at hm
  obtain⟨Ho,hm2⟩:=hm
  obtain⟨c1,c2,c3⟩:=(Cm _ _).1 Ho
  dsimp only at c1 c2 c3
  simp only [List.length_cons]at hn ⊢
  have R1:e8 (nest+1) id true (e8 (nest+1) id false (out++ [⟨⟨id,kind,labels,name,proc,x,has,args,aY,e⟩,nest,bS,aT⟩]) aY) e=out++([⟨⟨id,kind,labels,name,proc,x,has,args,aY,e⟩,nest,bS,aT⟩]++n0):=by
   simp only [iy]at qB
   rw [if_pos (by simpa using c2)]at qB
   exact qB
  obtain⟨n1,g1⟩:=pG (nest+1) id false aY (out++ [⟨⟨id,kind,labels,name,proc,x,has,args,aY,e⟩,nest,bS,aT⟩])
  obtain⟨n2,g2⟩:=pG (nest+1) id true e (e8 (nest+1) id false (out++ [⟨⟨id,kind,labels,name,proc,x,has,args,aY,e⟩,nest,bS,aT⟩]) aY)
  have en:n0=n1++n2:=by
   rw [g2,g1]at R1
   simp only [List.append_assoc,List.append_cancel_left_eq]at R1
   exact R1.symm
  subst en
  have R3:It.dT (n+1) (n1++n2)=true:=hm2
  rw [kg,Bool.and_eq_true]at R3
  simp only [List.length_append]at hn ⊢
  obtain⟨r1,r2⟩:=uV aY (nest+1) id false (n+1) _ n1 g1 R3.1 (by simp;omega) (by omega)
  obtain⟨q1,q2⟩:=uV e (nest+1) id true (n+1+n1.length) _ n2 g2 R3.2 (by rw [g1];simp;omega) (by omega)
  refine⟨?_,c2⟩
  have gg : ∀ {l:List Sm} {m:Nat} {r:Bool×Nat},Sm.eK (nest+1) m l=r→(l = []∨nest+1≤12)→Sm.fT (nest+1) m l=r:=by
   intro l m r h1 h2
   unfold Sm.fT gate
   rw [if_neg]
   ·exact h1
   ·simp only [Bool.and_eq_true,decide_eq_true_eq,not_and]
    rcases h2 with h2 | h2
    ·subst h2;simp
    ·omega
  have t1:=gg r1 r2
  have t2:=gg q1 q2
  rw [Ds]
  dsimp only
  rw [t1]
  dsimp only
  rw [t2]
  rw [Cl,Bool.and_eq_true]at c3
  rw [if_neg]
  ·simp;omega
  ·simp only [Bool.or_eq_true,bne_iff_ne,ne_eq,decide_eq_true_eq,Bool.not_eq_true',not_or,Decidable.not_not,Bool.not_eq_false]
   exact⟨⟨⟨by omega,c1⟩,c3.1⟩,c3.2⟩
theorem uV : ∀ (l:List Sm) (nest bS:Int) (aT:Bool) (n:Nat) (out new:List It),e8 nest bS aT out l=out++new→It.dT n new=true→out.length≤n→n+new.length≤200→
 Sm.eK nest n l=(true,n+new.length)∧(l = []∨nest≤12)
 | [],nest,bS,aT,n,out,new,qB,hm,ho,hn=>by
  simp only [e8]at qB
  have:new = []:=by simpa using qB
  subst this
  exact⟨by simp [Sm.eK], .inl rfl⟩
 | s::l,nest,bS,aT,n,out,new,qB,hm,ho,hn=>by
  simp only [e8]at qB
  rw [if_pos (by simp only [decide_eq_true_eq];omega)]at qB
  obtain⟨n1,g1⟩:=zk nest bS aT s out
  obtain⟨n2,g2⟩:=pG nest bS aT l (iy nest bS aT out s)
  have en:new=(⟨s,nest,bS,aT⟩::n1)++n2:=by
   rw [g2,g1,List.append_assoc,List.append_cancel_left_eq]at qB
   exact qB.symm
  subst en
  rw [kg,Bool.and_eq_true]at hm
  rw [List.length_append]at hn ⊢
  obtain⟨r1,r2⟩:=OP s nest bS aT n out _ g1 hm.1 ho (by omega)
  obtain⟨q1,q2⟩:=uV l nest bS aT (n+(⟨s,nest,bS,aT⟩::n1:List It).length) _ n2 g2 hm.2 (by rw [g1,List.length_append];omega) (by omega)
  refine⟨?_, .inr r2⟩
  simp only [Sm.eK,r1,Bool.not_true,Bool.false_eq_true, ↓reduceIte,q1]
  congr 1;omega
end
theorem zl : ∀ (l:List Pc) (out:List It),out.length≤200→(Pc.eK out.length l=true↔Pc.mI l=true∧∃ new,allM out l=out++new∧(out++new).length≤200∧It.dT out.length new=true)
 | [],out,ho=>by simp [Pc.eK,Pc.mI,allM,It.dT];exact ho
 | f::l,out,ho=>by
  have vL : ∀ (l:List Pc) (out:List It),∃ new,allM out l=out++new:=by
   intro l
   induction l with
   | nil=>intro out;exact⟨[],by simp [allM]⟩
   | cons f l ih=>
    intro out
    simp only [allM]
    split
    ·exact⟨_,rfl⟩
    ·obtain⟨n1,h1⟩:=ih (out++f.flat)
     exact⟨f.flat++n1,by rw [h1,List.append_assoc]⟩
  simp only [Pc.eK,Pc.mI]
  have ac6:(decide ((f.params.length:Int) > 8) || decide ((f.vars.length:Int) > 16) || !(isName f.name) || !(c6 f.vars) || !(c6 f.fin))=(!(isName f.name) || decide ((f.params.length:Int) > 8) || decide ((f.vars.length:Int) > 16) || !(c6 f.vars) || !(c6 f.fin)):=by
   cases isName f.name <;> simp
  rw [ac6]
  split
  ·simp
  split
  ·simp
  have hg:Sm.fT 1 out.length f.body=Sm.eK 1 out.length f.body:=by unfold Sm.fT gate;rw [if_neg (by simp)]
  rw [hg]
  constructor
  ·intro h
   split at h
   ·cases h
   rename_i hc
   obtain⟨n1,k1,k2,k3,k4⟩:=uU f.body 1 0 false out.length [] (.inr (by omega)) (by simp) ho (by simpa using hc)
   have qB:f.flat=n1:=by unfold Pc.flat;rw [k1];rfl
   rw [← k3, ← List.length_append]at h
   obtain⟨hh,n2,j1,j2,j3⟩:=(zl l (out++n1) (by rw [List.length_append];omega)).1 h
   refine⟨hh,n1++n2, ?_,by simpa using j2, ?_⟩
   ·simp only [allM,qB]
    rw [if_neg (by simp only [List.length_append,decide_eq_true_eq];omega),j1,List.append_assoc]
   ·rw [kg,k2, ← List.length_append,j3];rfl
  ·rintro⟨hh,new,j1,j2,j3⟩
   simp only [allM]at j1
   split at j1
   ·rename_i hc
    have:new=f.flat:=(List.append_cancel_left j1).symm
    subst this
    simp only [decide_eq_true_eq]at hc
    omega
   rename_i hc
   simp only [decide_eq_true_eq]at hc
   obtain⟨n2,g2⟩:=vL l (out++f.flat)
   have en:new=f.flat++n2:=by
    rw [g2,List.append_assoc]at j1
    exact(List.append_cancel_left j1).symm
   subst en
   rw [kg,Bool.and_eq_true]at j3
   rw [List.length_append,List.length_append]at j2
   obtain⟨r1,_⟩:=uV f.body 1 0 false out.length [] f.flat (by unfold Pc.flat;rfl) j3.1 (by simp) (by omega)
   rw [r1]
   simp only [Bool.not_true,Bool.false_eq_true, ↓reduceIte]
   rw [← List.length_append]
   exact(zl l (out++f.flat) (by rw [List.length_append];omega)).2 ⟨hh,n2,g2,by simp;omega,by rw [List.length_append];exact j3.2⟩
theorem z7 (p:Pg):p.Du=p.may:=by
 have h:=zl p.procs [] (by simp)
 unfold Pg.Du Pg.may
 split
 ·rfl
 ·have e:Pc.eK 0 p.procs=(if !(Pc.mI p.procs)then false else if decide ((p.all.length:Int) > 200)then false else It.dT 0 p.all):=by
   rw [Bool.eq_iff_iff]
   have h':Pc.eK 0 p.procs=true↔_:=h
   rw [h']
   have ha:p.all=allM [] p.procs:=rfl
   constructor
   ·rintro⟨h1,new,h2,h3,h4⟩
    rw [ha,h2,h1]
    simp only [List.nil_append]at h3 ⊢
    simp only [Bool.not_true,Bool.false_eq_true, ↓reduceIte]
    rw [if_neg (by simp only [decide_eq_true_eq];omega)]
    exact h4
   ·intro h1
    cases hh:Pc.mI p.procs
    ·rw [hh]at h1;simp at h1
    ·rw [hh]at h1
     simp only [Bool.not_true,Bool.false_eq_true, ↓reduceIte]at h1
     split at h1
     ·cases h1
     ·rename_i hc
      simp only [decide_eq_true_eq]at hc
      exact⟨rfl,p.all,by rw [ha];rfl,by simp;omega,h1⟩
  exact e
end Go.Abs

/-! Tree1 -/

namespace Go.Abs
set_option maxRecDepth 8000
open Go.Proofs
theorem Cn {size bytes z:Nat} {g:Tag} {rows:List (List D)} {s:St} (h:rows.length*(bytes+1)≤bx) (hr:rows≠ []) :
 kA size bytes (.slice .full z []) (.slice g size rows) s=some (.slice (.tok s.aC.length) size rows,⟨s.aA,s.aC++ [some rows.length]⟩):=by
 cases rows with
 | nil=>exact absurd rfl hr
 | cons r l=>simp only [kA];simp at h ⊢;exact h
theorem uW {l:List ay} (hl:l.length<1073741824) (g:Tag) (s:St):aD Tryz.prog gp [.slice g 1 (l.map encStr)] s (.slice .shared 1 (l.map encStr)) s:=by
 refine eg.Ba (.cons (Wk.shared _ _ _) .nil) (aD.pure ?_ (by simp [D.bJ,D.ok,Tag.ok,eD]) (by simp [D.ok,Tag.ok,eD]) s)
 unfold S0
 refine aD.go uk rfl fun B Q hB hQ=> ?_
 have⟨hP,hY,hZ,gA⟩:=bw
 cases l with
 | nil=>
  repeat' (first
 | simp only [go_sem,hP,hY,hZ,gA]
 | (with_reducible refine aF hQ ?_;simp only [az,aB,Option.some.injEq,exists_eq_left',go_sem,hP,hY,hZ,gA];repeat' (first | exact Ok.out | with_reducible refine aG ?_ ?_ | (simp;done))))
  refine Gy (fun _=> ?_) ?_
  ·repeat' (first
 | simp only [go_sem,hP,hY,hZ,gA,kA,true_or,Nat.zero_le]
 | (with_reducible refine aF hQ ?_;simp only [az,aB,Option.some.injEq,exists_eq_left',go_sem,hP,hY,hZ,gA];repeat' (first | exact Ok.out | with_reducible refine aG ?_ ?_ | (simp;done))))
  ·repeat' (first
 | simp only [go_sem,hP,hY,hZ,gA,kA,true_or,Nat.zero_le]
 | (with_reducible refine aF hQ ?_;simp only [az,aB,Option.some.injEq,exists_eq_left',go_sem,hP,hY,hZ,gA];repeat' (first | exact Ok.out | with_reducible refine aG ?_ ?_ | (simp;done))))
 | cons x l=>
  have e:((x::l).map encStr).length*(16+1)≤bx:=by simp only [List.length_map,bx];omega
  have e2:=fun s=>Cn (size:=1) (z:=1) (g:= .shared) (s:=s) e (by simp)
  simp only [List.map_cons,encStr]at e2
  repeat' (first
 | simp only [go_sem,hP,hY,hZ,gA,e2]
 | (with_reducible refine aF hQ ?_;simp only [az,aB,Option.some.injEq,exists_eq_left',go_sem,hP,hY,hZ,gA];repeat' (first | exact Ok.out | with_reducible refine aG ?_ ?_ | (simp;done))))
theorem R4 {l:List Pm} (hl:l.length<1073741824) (g:Tag) (s:St):aD Tryz.prog kD [.slice g 2 (l.map fE)] s (.slice .shared 2 (l.map fE)) s:=by
 refine eg.Ba (.cons (Wk.shared _ _ _) .nil) (aD.pure ?_ (by simp [D.bJ,D.ok,Tag.ok,LK]) (by simp [D.ok,Tag.ok,LK]) s)
 unfold S0
 refine aD.go sf rfl fun B Q hB hQ=> ?_
 have⟨hP,hY,hZ,gA⟩:=bw
 cases l with
 | nil=>
  repeat' (first
 | simp only [go_sem,hP,hY,hZ,gA]
 | (with_reducible refine aF hQ ?_;simp only [az,aB,Option.some.injEq,exists_eq_left',go_sem,hP,hY,hZ,gA];repeat' (first | exact Ok.out | with_reducible refine aG ?_ ?_ | (simp;done))))
  refine Gy (fun _=> ?_) ?_
  ·repeat' (first
 | simp only [go_sem,hP,hY,hZ,gA,kA,true_or,Nat.zero_le]
 | (with_reducible refine aF hQ ?_;simp only [az,aB,Option.some.injEq,exists_eq_left',go_sem,hP,hY,hZ,gA];repeat' (first | exact Ok.out | with_reducible refine aG ?_ ?_ | (simp;done))))
  ·repeat' (first
 | simp only [go_sem,hP,hY,hZ,gA,kA,true_or,Nat.zero_le]
 | (with_reducible refine aF hQ ?_;simp only [az,aB,Option.some.injEq,exists_eq_left',go_sem,hP,hY,hZ,gA];repeat' (first | exact Ok.out | with_reducible refine aG ?_ ?_ | (simp;done))))
 | cons x l=>
  have e:((x::l).map fE).length*(24+1)≤bx:=by simp only [List.length_map,bx];omega
  have e2:=fun s=>Cn (size:=2) (z:=2) (g:= .shared) (s:=s) e (by simp)
  simp only [List.map_cons,encStr]at e2
  repeat' (first
 | simp only [go_sem,hP,hY,hZ,gA,e2]
 | (with_reducible refine aF hQ ?_;simp only [az,aB,Option.some.injEq,exists_eq_left',go_sem,hP,hY,hZ,gA];repeat' (first | exact Ok.out | with_reducible refine aG ?_ ?_ | (simp;done))))
theorem Zv : ∀ n,n<1073741824→∀ x:Ex,x.size≤n→aD Tryz.prog lB [.agg (bo x)] S0 (.agg (bo x)) S0:=by
 intro n
 induction n with
 | zero=>rintro _ ⟨op,m,name,kids⟩ h;simp only [Ex.size]at h;omega
 | succ n Oi=>
 rintro hn ⟨op,m,name,kids⟩ hx
 have hk : ∀ y∈kids,∀ s,aD Tryz.prog lB [.agg (bo y)] s (.agg (bo y)) s:=fun y hy s=>
  (Oi (by omega) y (by simp only [Ex.size]at hx;have:=Ex.bW hy;omega)).pure (by simp [D.bJ,D.ok,fW]) (by simp [D.ok,fW]) s
 have hlen:kids.length<1073741824:=by simp only [Ex.size]at hx;have:=Ex.da kids;omega
 unfold S0
 refine aD.go E6 rfl fun B Q hB hQ=> ?_
 have⟨hP,hY,hZ,gA⟩:=bw
 repeat' (first
 | simp only [go_sem,hP,hY,hZ,gA]
 | (with_reducible refine aF hQ ?_;simp only [az,aB,Option.some.injEq,exists_eq_left',go_sem,hP,hY,hZ,gA];repeat' (first | exact Ok.out | with_reducible refine aG ?_ ?_ | (simp;done))))
 refine bj.pb 0 3 4 rfl rfl ?_
 simp only [go_sem,hP,hY,hZ,gA]
 refine cM 2 1 (bj.ind (ι:=List Ex×Nat×List Ex) (fun i=>kids.drop i.2.1=i.1∧i.2.1=i.2.2.length∧i.2.2++i.1=kids) (fun i=>i.1.length)
  (fun i=> [(1, .ptr 0 0),(2, .ptr 1 0),(9, .slice .shared 4 (kids.map bo)),(10, .int .i64 (kids.length:Int)),(11, .int .i64 (i.2.1:Int))])
  (fun i=>⟨[[.int .i64 op, .int .i64 m, .str name, .slice (.tok 0) 4 (i.2.2.map bo)],bo ld],[some i.2.1]⟩) ?_ (kids,0,[]) ⟨rfl,rfl,rfl⟩)
 rintro⟨rest,k,acc⟩ ⟨h1,h2,h3⟩ IH
 dsimp only at h1 h2 h3
 subst h2
 cases rest with
 | nil=>
  have hP:=drop_nil h1
  rw [List.append_nil]at h3
  subst h3
  repeat' (first
 | simp only [go_sem,hP,hY,hZ,gA]
 | (with_reducible refine aF hQ ?_;simp only [az,aB,Option.some.injEq,exists_eq_left',go_sem,hP,hY,hZ,gA];repeat' (first | exact Ok.out | with_reducible refine aG ?_ ?_ | (simp;done))))
 | cons y rest=>
  obtain⟨hY,g2,hP,g4⟩:=drop_cons h1
  have hZ:acc.length<4611686018427387904:=by omega
  have eU:(acc.length+1)*57≤bx:=by simp only [bx];omega
  have hy:=hk y (List.mem_of_getElem? hY)
  repeat' (first
 | simp only [go_sem,hP,hY,hZ,gA,eU]
 | (with_reducible refine CU (hy _) ?_)
 | (with_reducible refine aF hQ ?_;simp only [az,aB,Option.some.injEq,exists_eq_left',go_sem,hP,hY,hZ,gA];repeat' (first | exact Ok.out | with_reducible refine aG ?_ ?_ | (simp;done))))
  refine cM 2 1 (IH (rest,acc.length+1,acc++ [y]) ⟨g2,by simp,by simp only [List.append_assoc,List.cons_append,List.nil_append];exact h3⟩ (Nat.lt_succ_self _))
theorem OR {x:Ex} (h:x.size<1073741824) (s:St):aD Tryz.prog lB [.agg (bo x)] s (.agg (bo x)) s:=
 (Zv x.size h x (Nat.le_refl _)).pure (by simp [D.bJ,D.ok,fW]) (by simp [D.ok,fW]) s
end Go.Abs

/-! Tree2 -/

namespace Go.Abs
set_option maxRecDepth 8000
open Go.Proofs
abbrev UU (b:Bool) (N:Nat):Prop:=∀ l:List Sm,Sm.aW l<N→∀ n:Nat,n+Sm.aW l<1073741824→∀ s:St,
 aD Tryz.prog jL [.slice .shared 13 (l.map bd), .int .i64 (n:Int), .bool b] s (.tuple [.slice .shared 13 ((Sm.fX b n l).1.map bd), .int .i64 ((Sm.fX b n l).2:Int)]) s
theorem R5 {N:Nat} (ih:UU true N) (l:List Sm) (hl:Sm.aW l<N+1) (n:Nat) (hn:n+Sm.aW l<1073741824) :
 aD Tryz.prog jL [.slice .shared 13 (l.map bd), .int .i64 (n:Int), .bool true] S0 (.tuple [.slice .shared 13 ((Sm.fX true n l).1.map bd), .int .i64 ((Sm.fX true n l).2:Int)]) S0:=by
 unfold S0
 refine aD.go B4 rfl fun B Q hB hQ=> ?_
 have⟨hP,hY,hZ,gA⟩:=bw
 repeat' (first
 | simp only [go_sem,hP,hY,hZ,gA]
 | (with_reducible refine aF hQ ?_;simp only [az,aB,Option.some.injEq,exists_eq_left',go_sem,hP,hY,hZ,gA];repeat' (first | exact Ok.out | with_reducible refine aG ?_ ?_ | (simp;done))))
 have hlen:l.length<1073741824:=by have:=Sm.da l;omega
 refine bj.nT 8 13 rfl ?_
 simp only [go_sem,hP,hY,hZ,gA]
 refine cM 0 1 (bj.ind (ι:=List Sm×Nat×List Sm×Nat) (fun i=>l.drop i.2.1=i.1∧i.2.1=i.2.2.1.length∧Sm.fX true n l=(i.2.2.1++(Sm.fX true i.2.2.2 i.1).1,(Sm.fX true i.2.2.2 i.1).2)∧i.2.2.2+Sm.aW i.1≤n+Sm.aW l) (fun i=>i.1.length)
  (fun i=> [(1, .int .i64 (i.2.2.2:Int)),(2, .bool true),(8, .slice (.tok 0) 13 (i.2.2.1.map bd)),(14, .slice .shared 13 (l.map bd)),(15, .int .i64 (l.length:Int)),(16, .int .i64 (i.2.1:Int))])
  (fun i=>⟨[],[some i.2.1]⟩) ?_ (l,0,[],n) ⟨rfl,rfl,rfl,Nat.le_refl _⟩)
 rintro⟨rest,k,acc,m⟩ ⟨h1,h2,h3,h4⟩ IH
 dsimp only at h1 h2 h3 h4
 subst h2
 cases rest with
 | nil=>
  have hP:=drop_nil h1
  simp only [Sm.fX,List.append_nil]at h3
  rw [h3]at hQ
  repeat' (first
 | simp only [go_sem,hP,hY,hZ,gA]
 | (with_reducible refine aF hQ ?_;simp only [az,aB,Option.some.injEq,exists_eq_left',go_sem,hP,hY,hZ,gA];repeat' (first | exact Ok.out | with_reducible refine aG ?_ ?_ | (simp;done))))
 | cons y rest=>
  obtain⟨hY,g2,hP,g4⟩:=drop_cons h1
  simp only [Sm.aW]at h4 hl
  have hm:m<4611686018427387904:=by omega
  have hk:acc.length<4611686018427387904:=by omega
  have ew:y.size≤N:=by have:=Sm.bW (List.mem_of_getElem? hY);omega
  obtain⟨id,kind,labels,name,proc,x,has,args,aY,aT⟩:=y
  simp only [Sm.size]at ew h4
  have eU:(acc.length+1)*209≤bx:=by simp only [bx];omega
  have hx:=fun s=>OR (x:=x) (by omega) s
  simp only [fO]at hx
  have xP:=fun g s=>uW (l:=labels) (by omega) g s
  have xU:=Ar.da args
  repeat' (first
 | simp only [go_sem,hP,hY,hZ,gA,aN hm]
 | (with_reducible refine CU (xP _ _) ?_)
 | (with_reducible refine CU (hx _) ?_)
 | (with_reducible refine aF hQ ?_;simp only [az,aB,Option.some.injEq,exists_eq_left',go_sem,hP,hY,hZ,gA];repeat' (first | exact Ok.out | with_reducible refine aG ?_ ?_ | (simp;done))))
  refine bj.pb 1 10 6 rfl rfl ?_
  simp only [go_sem,hP,hY,hZ,gA]
  refine cM 2 2 (bj.ind (ι:=List Ar×Nat×List Ar) (fun i=>args.drop i.2.1=i.1∧i.2.1=i.2.2.length∧i.2.2++i.1=args) (fun i=>i.1.length)
   (fun i=> [(1, .int .i64 ((m+1:Nat):Int)),(2, .bool true),(8, .slice (.tok 0) 13 (acc.map bd)),(10, .ptr 0 0),(11, .ptr 1 0),(14, .slice .shared 13 (l.map bd)),(15, .int .i64 (l.length:Int)),(16, .int .i64 (acc.length:Int)),
    (36, .slice .shared 6 (args.map dR)),(37, .int .i64 (args.length:Int)),(38, .int .i64 (i.2.1:Int))])
   (fun i=>⟨[bd ⟨id,kind,labels,name,proc,x,has,args,aY,aT⟩,[.int .i64 ((m+1:Nat):Int), .int .i64 kind, .slice .shared 1 (labels.map encStr), .str name, .str proc, .int .i64 x.op, .int .i64 x.n, .str x.name, .slice .shared 4 (x.kids.map bo), .bool has, .slice (.tok 1) 6 (i.2.2.map dR), .slice .shared 13 (aY.map bd), .slice .shared 13 (aT.map bd)]],[some acc.length,some i.2.1]⟩) ?_ (args,0,[]) ⟨rfl,rfl,rfl⟩)
  rintro⟨qk,ka,mJ⟩ ⟨j1,j2,j3⟩ OS
  dsimp only at j1 j2 j3
  subst j2
  cases qk with
  | nil=>
   have hP:=drop_nil j1
   rw [List.append_nil]at j3
   subst j3
   have b1:=Sm.s4 true (m+1) aY
   have b2:=Sm.s4 true (Sm.fX true (m+1) aY).2 aT
   have c1:=ih aY (by omega) (m+1) (by omega)
   have c2:=ih aT (by omega) (Sm.fX true (m+1) aY).2 (by omega)
   repeat' (first
 | simp only [go_sem,hP,hY,hZ,gA,eU]
 | (with_reducible refine CU (c1 _) ?_)
 | (with_reducible refine CU (c2 _) ?_)
 | (with_reducible refine aF hQ ?_;simp only [az,aB,Option.some.injEq,exists_eq_left',go_sem,hP,hY,hZ,gA];repeat' (first | exact Ok.out | with_reducible refine aG ?_ ?_ | (simp;done))))
   refine eo 0 1 ?_ ?_ (IH (rest,acc.length+1,acc++ [(Sm.num true m ⟨id,kind,labels,name,proc,x,has,mJ,aY,aT⟩).1],(Sm.num true m ⟨id,kind,labels,name,proc,x,has,mJ,aY,aT⟩).2) ⟨g2,by simp,by rw [h3];simp [Sm.fX],by simp only [Sm.num];omega⟩ (Nat.lt_succ_self _))
   ·(simp only [go_sem,hP,hY,hZ,gA,aN hk,Sm.num];try exact bQ)
   ·(simp only [go_sem,hP,hY,hZ,gA,aN hk,Sm.num];try exact bQ)
  | cons a qk=>
   obtain⟨hY,g2,hP,g4⟩:=drop_cons j1
   have ha:a.x.size<1073741824:=by have:=Ar.bW (List.mem_of_getElem? hY);omega
   have uz:mJ.length<4611686018427387904:=by omega
   have tU:(mJ.length+1)*81≤bx:=by simp only [bx];omega
   have OT:=fun s=>OR ha s
   simp only [fO]at OT
   obtain⟨R6,L0,ax⟩:=a
   repeat' (first
 | simp only [go_sem,hP,hY,hZ,gA,tU]
 | (with_reducible refine CU (OT _) ?_)
 | (with_reducible refine aF hQ ?_;simp only [az,aB,Option.some.injEq,exists_eq_left',go_sem,hP,hY,hZ,gA];repeat' (first | exact Ok.out | with_reducible refine aG ?_ ?_ | (simp;done))))
   refine eo 2 2 ?_ ?_ (OS (qk,mJ.length+1,mJ++ [⟨R6,L0,ax⟩]) ⟨g2,by simp,by simp only [List.append_assoc,List.cons_append,List.nil_append];exact j3⟩ (Nat.lt_succ_self _))
   ·(simp only [go_sem,hP,hY,hZ,gA,aN uz];try exact bQ)
   ·(simp only [go_sem,hP,hY,hZ,gA,aN uz];try exact bQ)
theorem Wp : ∀ N,UU true N:=by
 intro N
 induction N with
 | zero=>intro l hl;exact absurd hl (Nat.not_lt_zero _)
 | succ N ih=>
  intro l hl n hn s
  exact(R5 ih l hl n hn).pure (by simp [D.bJ,D.ok,Tag.ok,lM]) (by simp [D.bJ,D.ok,Tag.ok,lM]) s
theorem ac7 {l:List Sm} {n:Nat} (h:n+Sm.aW l<1073741824) (s:St) :
 aD Tryz.prog jL [.slice .shared 13 (l.map bd), .int .i64 (n:Int), .bool true] s (.tuple [.slice .shared 13 ((Sm.fX true n l).1.map bd), .int .i64 ((Sm.fX true n l).2:Int)]) s:=
 Wp _ l (Nat.lt_succ_self _) n h s
theorem R7 {p:Pg} (hp:p.size<1073741824):aD Tryz.prog o5 [.agg (cd p)] S0 (.agg (cd p.number)) S0:=by
 obtain⟨globals,procs⟩:=p
 simp only [Pg.size]at hp
 have hlen:procs.length<1073741824:=by have:=Pc.da procs;omega
 have hcg:=fun g s=>uW (l:=globals) (by omega) g s
 unfold S0
 refine aD.go B1 rfl fun B Q hB hQ=> ?_
 have⟨hP,hY,hZ,gA⟩:=bw
 repeat' (first
 | simp only [go_sem,hP,hY,hZ,gA]
 | (with_reducible refine CU (hcg _ _) ?_)
 | (with_reducible first | refine br fun hc=> ?_ | refine bt fun hc=> ?_ | refine bu (fun hc=> ?_) fun hc=> ?_) <;> (try simp only [hc,bs, ↓reduceIte]at h) <;> try simp only [hc]
 | (with_reducible refine aF hQ ?_;simp only [az,aB,bB,bC,go_sem,hP,hY,hZ,gA];repeat' (first | exact Ok.out | with_reducible refine aG ?_ ?_ | (simp;done))))
 refine bj.pb 2 1 5 rfl rfl ?_
 simp only [go_sem,hP,hY,hZ,gA]
 refine cM 3 1 (bj.ind (ι:=List Pc×Nat×List Pc×Nat) (fun i=>procs.drop i.2.1=i.1∧i.2.1=i.2.2.1.length∧Pc.fX 0 procs=i.2.2.1++Pc.fX i.2.2.2 i.1∧i.2.2.2+Pc.aW i.1≤Pc.aW procs) (fun i=>i.1.length)
  (fun i=> [(2, .ptr 1 0),(3, .int .i64 (i.2.2.2:Int)),(4, .ptr 2 0),(13, .slice .shared 5 (procs.map cA)),(14, .int .i64 (procs.length:Int)),(15, .int .i64 (i.2.1:Int))])
  (fun i=>⟨[cd ⟨globals,procs⟩,cd yL,[.slice .shared 1 (globals.map encStr), .slice (.tok 0) 5 (i.2.2.1.map cA)]],[some i.2.1]⟩) ?_ (procs,0,[],0) ⟨rfl,rfl,rfl,by dsimp only;omega⟩)
 rintro⟨rest,k,acc,m⟩ ⟨h1,h2,h3,h4⟩ IH
 dsimp only at h1 h2 h3 h4
 subst h2
 cases rest with
 | nil=>
  have hP:=drop_nil h1
  simp only [Pc.fX,List.append_nil]at h3
  subst h3
  repeat' (first
 | simp only [go_sem,hP,hY,hZ,gA,Pg.number]
 | (with_reducible first | refine br fun hc=> ?_ | refine bt fun hc=> ?_ | refine bu (fun hc=> ?_) fun hc=> ?_) <;> (try simp only [hc,bs, ↓reduceIte]at h) <;> try simp only [hc]
 | (with_reducible refine aF hQ ?_;simp only [az,aB,bB,bC,go_sem,hP,hY,hZ,gA,Pg.number];repeat' (first | exact Ok.out | with_reducible refine aG ?_ ?_ | (simp;done))))
 | cons y rest=>
  obtain⟨hY,g2,hP,g4⟩:=drop_cons h1
  simp only [Pc.aW]at h4
  have ew:=Pc.bW (List.mem_of_getElem? hY)
  obtain⟨name,params,vars,body,fin⟩:=y
  simp only [Pc.size]at ew h4
  have hk:acc.length<4611686018427387904:=by omega
  have eU:(acc.length+1)*113≤bx:=by simp only [bx];omega
  have c1:=fun g s=>R4 (l:=params) (by omega) g s
  have c2:=fun g s=>uW (l:=vars) (by omega) g s
  have c3:=fun g s=>uW (l:=fin) (by omega) g s
  have c4:=fun s=>ac7 (l:=body) (n:=m) (by omega) s
  have b1:=Sm.s4 true m body
  repeat' (first
 | simp only [go_sem,hP,hY,hZ,gA,eU]
 | (with_reducible refine CU (c1 _ _) ?_)
 | (with_reducible refine CU (c2 _ _) ?_)
 | (with_reducible refine CU (c3 _ _) ?_)
 | (with_reducible refine CU (c4 _) ?_)
 | (with_reducible refine aF hQ ?_;simp only [az,aB,bB,bC,go_sem,hP,hY,hZ,gA];repeat' (first | exact Ok.out | with_reducible refine aG ?_ ?_ | (simp;done))))
  refine eo 3 1 ?_ ?_ (IH (rest,acc.length+1,acc++ [⟨name,params,vars,(Sm.fX true m body).1,fin⟩],(Sm.fX true m body).2) ⟨g2,by simp,by rw [h3];simp [Pc.fX],by dsimp only;omega⟩ (Nat.lt_succ_self _))
  ·(simp only [go_sem,hP,hY,hZ,gA,aN hk];try exact bQ)
  ·(simp only [go_sem,hP,hY,hZ,gA,aN hk];try exact bQ)
theorem R8 {p q:Pg} (h:p.C6=some q) (s:St):aD Tryz.prog o5 [.agg (cd p)] s (.agg (cd q)) s:=by
 unfold Pg.C6 at h
 split at h
 ·cases h;exact(R7 ‹_›).pure (by simp [D.bJ,D.ok,iR]) (by simp [D.ok,iR]) s
 ·cases h
end Go.Abs

/-! Sc1 -/

namespace Go.Abs
set_option maxRecDepth 8000
open Go.Proofs
def alm (x:ay):List ay→Bool
 | []=>false
 | s::l=>if x==s then true else alm x l
def wG (pre:List ay):List ay→Bool
 | []=>false
 | s::l=>if dW pre s then true else wG (pre++ [s]) l
def fM (l:List ay):Bool:=wG [] l
theorem OU {l:List ay} {k:Nat} {a:ay} (h:l[k]? = some a):l.take (k+1)=l.take k++ [a]:=by rw [List.take_add_one,h];rfl
theorem Bl {l:List ay} (hl:l.length<4611686018427387904) (g:Tag) (s:St):aD Tryz.prog mT [.slice g 1 (l.map encStr)] s (.bool (fM l)) s:=by
 refine aD.Ow (d':= .slice .shared 1 (l.map encStr)) ?_ (Wk.shared _ _ _)
 refine aD.pure ?_ (by simp [D.bJ,D.ok,Tag.ok,eD]) rfl s
 generalize h:fM l=p
 simp only [fM]at h
 unfold S0
 refine aD.go BY rfl fun B Q hB hQ=> ?_
 have⟨hP,hY,hZ,gA⟩:=bw
 repeat' (first
 | simp only [go_sem,hP,hY,hZ,gA]
 | (with_reducible first | refine br fun hc=> ?_ | refine bt fun hc=> ?_ | refine bu (fun hc=> ?_) fun hc=> ?_) <;> (try simp only [hc,bs, ↓reduceIte]at h) <;> try simp only [hc]
 | (with_reducible refine aF hQ ?_;(try cases h);simp only [az,aB,bB,bC,go_sem,hP,hY,hZ,gA];repeat' (first | exact Ok.out | with_reducible refine aG ?_ ?_ | (simp;done))))
 refine cM 0 0 (bj.ind (ι:=List ay×Nat) (fun i=>l.drop i.2=i.1∧wG (l.take i.2) i.1=p) (fun i=>i.1.length)
  (fun i=> [(0, .slice .shared 1 (l.map encStr)),(5, .slice .shared 1 (l.map encStr)),(6, .int .i64 (l.length:Int)),(7, .int .i64 (i.2:Int))]) (fun i=>⟨[],[]⟩) ?_ (l,0) ⟨rfl,h⟩)
 rintro⟨rest,k⟩ ⟨h1,h⟩ IH
 dsimp only at h1 h
 cases rest with
 | nil=>
  have hP:=drop_nil h1
  simp only [wG]at h
  repeat' (first
 | simp only [go_sem,hP,hY,hZ,gA]
 | (with_reducible first | refine br fun hc=> ?_ | refine bt fun hc=> ?_ | refine bu (fun hc=> ?_) fun hc=> ?_) <;> (try simp only [hc,bs, ↓reduceIte]at h) <;> try simp only [hc]
 | (with_reducible refine aF hQ ?_;(try cases h);simp only [az,aB,bB,bC,go_sem,hP,hY,hZ,gA];repeat' (first | exact Ok.out | with_reducible refine aG ?_ ?_ | (simp;done))))
 | cons a rest=>
  obtain⟨hY,g2,hP,g4⟩:=drop_cons h1
  have cz:k<4611686018427387904:=by omega
  simp only [wG]at h
  have hc:=iI (l:=l.take k) (by rw [List.length_take];omega) a
  have e1:List.drop 0 (List.take k (l.map encStr))=(l.take k).map encStr:=by simp [List.map_take]
  have c1:((0:Int)≤(k:Int))=True:=by simp
  have c2:((k:Int)≤(l.length:Int))=True:=by simp only [eq_iff_iff,iff_true];omega
  have e2:List.take k (l.map encStr)=(l.take k).map encStr:=by simp [List.map_take]
  repeat' (first
 | simp only [go_sem,hP,hY,hZ,gA,e1,e2,c1,c2,or_true,true_and,and_self,ite_self,Int.toNat_natCast,List.drop_zero]
 | (with_reducible refine CU (hc _ _) ?_)
 | (with_reducible first | refine br fun hc=> ?_ | refine bt fun hc=> ?_ | refine bu (fun hc=> ?_) fun hc=> ?_) <;> (try simp only [hc,bs, ↓reduceIte]at h) <;> try simp only [hc]
 | (with_reducible refine aF hQ ?_;(try cases h);simp only [az,aB,bB,bC,go_sem,hP,hY,hZ,gA,e1,e2,c1,c2,or_true,true_and,and_self,ite_self,Int.toNat_natCast,List.drop_zero];repeat' (first | exact Ok.out | with_reducible refine aG ?_ ?_ | (simp;done))))
  refine eo 0 0 ?_ ?_ (IH (rest,k+1) ⟨g2,by dsimp only;rw [OU (by assumption)];exact h⟩ (Nat.lt_succ_self _))
  ·(simp only [go_sem,hP,hY,hZ,gA,aN cz];try exact bQ)
  ·(simp only [go_sem,hP,hY,hZ,gA,aN cz];try exact bQ)
end Go.Abs

/-! Sc2 -/

namespace Go.Abs
set_option maxRecDepth 8000
open Go.Proofs
def sP (vars globals:List ay) (name:ay):List Pm→Int
 | []=>if dW vars name then 4 else if dW globals name then 1 else 0
 | a::l=>if a.name==name then(if a.ref then 3 else 2)else sP vars globals name l
def Pc.jS (p:Pg) (f:Pc) (name:ay):Int:=sP f.vars p.globals name f.params
theorem Hp {p:Pg} {f:Pc} (hp:f.params.length<1000000000) (hv:f.vars.length<1000000000) (hg:p.globals.length<1000000000) (name:ay) (s:St):aD Tryz.prog tz [.agg (cd p), .agg (cA f), .str name] s (.int .i64 (f.jS p name)) s:=by
 refine aD.pure ?_ (by simp [D.bJ,D.ok,iR,yM]) rfl s
 have qC:=iI (l:=f.vars) (by omega) name
 have v7:=iI (l:=p.globals) (by omega) name
 generalize h:f.jS p name=q
 simp only [Pc.jS]at h
 unfold S0
 refine aD.go Dj rfl fun B Q hB hQ=> ?_
 have⟨hP,hY,hZ,gA⟩:=bw
 repeat' (first
 | simp only [go_sem,hP,hY,hZ,gA]
 | (with_reducible refine aF hQ ?_;simp only [az,aB,Option.some.injEq,exists_eq_left',go_sem,hP,hY,hZ,gA];repeat' (first | exact Ok.out | with_reducible refine aG ?_ ?_ | (simp;done))))
 refine cM 2 0 (bj.ind (ι:=List Pm×Nat) (fun i=>f.params.drop i.2=i.1∧sP f.vars p.globals name i.1=q) (fun i=>i.1.length)
  (fun i=> [(2, .str name),(3, .ptr 0 0),(4, .ptr 1 0),(10, .slice .shared 2 (f.params.map fE)),(11, .int .i64 (f.params.length:Int)),(12, .int .i64 (i.2:Int))]) (fun i=>⟨[cd p,cA f],[]⟩) ?_ (f.params,0) ⟨rfl,h⟩)
 rintro⟨rest,k⟩ ⟨h1,h⟩ IH
 dsimp only at h1 h
 cases rest with
 | nil=>
  have hP:=drop_nil h1
  simp only [sP]at h
  rcases Bool.eq_false_or_eq_true (dW f.vars name)with b1 | b1
  ·simp only [b1,if_true]at h
   subst h
   repeat' (first
 | simp only [go_sem,hP,hY,hZ,gA,b1]
 | (with_reducible refine CU (qC _ _) ?_)
 | (with_reducible refine CU (v7 _ _) ?_)
 | (with_reducible refine aF hQ ?_;simp only [az,aB,Option.some.injEq,exists_eq_left',go_sem,hP,hY,hZ,gA];repeat' (first | exact Ok.out | with_reducible refine aG ?_ ?_ | (simp;done))))
  ·simp only [b1,Bool.false_eq_true,if_false]at h
   rcases Bool.eq_false_or_eq_true (dW p.globals name)with b2 | b2
   ·simp only [b2,if_true]at h
    subst h
    repeat' (first
 | simp only [go_sem,hP,hY,hZ,gA,b1,b2]
 | (with_reducible refine CU (qC _ _) ?_)
 | (with_reducible refine CU (v7 _ _) ?_)
 | (with_reducible refine aF hQ ?_;simp only [az,aB,Option.some.injEq,exists_eq_left',go_sem,hP,hY,hZ,gA];repeat' (first | exact Ok.out | with_reducible refine aG ?_ ?_ | (simp;done))))
   ·simp only [b2,Bool.false_eq_true,if_false]at h
    subst h
    repeat' (first
 | simp only [go_sem,hP,hY,hZ,gA,b1,b2]
 | (with_reducible refine CU (qC _ _) ?_)
 | (with_reducible refine CU (v7 _ _) ?_)
 | (with_reducible refine aF hQ ?_;simp only [az,aB,Option.some.injEq,exists_eq_left',go_sem,hP,hY,hZ,gA];repeat' (first | exact Ok.out | with_reducible refine aG ?_ ?_ | (simp;done))))
 | cons a rest=>
  obtain⟨hY,g2,hP,g4⟩:=drop_cons h1
  have cz:k<4611686018427387904:=by omega
  simp only [sP]at h
  rcases Bool.eq_false_or_eq_true (a.name==name)with b1 | b1
  ·simp only [b1,if_true]at h
   rcases Bool.eq_false_or_eq_true a.ref with b2 | b2
   ·simp only [b2,if_true]at h
    subst h
    repeat' (first
 | simp only [go_sem,hP,hY,hZ,gA,b1,b2]
 | (with_reducible refine aF hQ ?_;simp only [az,aB,Option.some.injEq,exists_eq_left',go_sem,hP,hY,hZ,gA];repeat' (first | exact Ok.out | with_reducible refine aG ?_ ?_ | (simp;done))))
   ·simp only [b2,Bool.false_eq_true,if_false]at h
    subst h
    repeat' (first
 | simp only [go_sem,hP,hY,hZ,gA,b1,b2]
 | (with_reducible refine aF hQ ?_;simp only [az,aB,Option.some.injEq,exists_eq_left',go_sem,hP,hY,hZ,gA];repeat' (first | exact Ok.out | with_reducible refine aG ?_ ?_ | (simp;done))))
  ·simp only [b1,Bool.false_eq_true,if_false]at h
   repeat' (first
 | simp only [go_sem,hP,hY,hZ,gA,b1]
 | (with_reducible refine aF hQ ?_;simp only [az,aB,Option.some.injEq,exists_eq_left',go_sem,hP,hY,hZ,gA];repeat' (first | exact Ok.out | with_reducible refine aG ?_ ?_ | (simp;done))))
   refine eo 2 0 ?_ ?_ (IH (rest,k+1) ⟨g2,h⟩ (Nat.lt_succ_self _))
   ·(simp only [go_sem,hP,hY,hZ,gA,aN cz];try exact bQ)
   ·(simp only [go_sem,hP,hY,hZ,gA,aN cz];try exact bQ)
def iX (name:ay):List Pc→Option Pc
 | []=>none
 | f::l=>if f.name==name then some f else iX name l
def Pg.find (p:Pg) (name:ay):Option Pc:=iX name p.procs
def pc0:Pc:=⟨[],[],[],[],[]⟩
def al0 (r:Option Pc):D:= .tuple [.agg (cA (r.getD pc0)), .bool r.isSome]
end Go.Abs

/-! Sc3 -/

namespace Go.Abs
set_option maxRecDepth 8000
open Go.Proofs
def Pc.zm (f:Pc):List ay:=f.params.map (·.name)
def Pc.own (f:Pc):List ay:=f.zm++f.vars
theorem ac8 {f:Pc} (hp:f.params.length<1000000) (hv:f.vars.length<1000000) (s:St):aD Tryz.prog vA [.agg (cA f)] s (.slice .shared 1 (f.own.map encStr)) s:=by
 refine aD.pure ?_ (by simp [D.bJ,D.ok,yM]) (by simp only [D.ok,Tag.ok,eD];rfl) s
 generalize hR:f.own=R
 simp only [Pc.own]at hR
 unfold S0
 refine aD.go E3 rfl fun B Q hB hQ=> ?_
 have⟨hP,hY,hZ,gA⟩:=bw
 repeat' (first
 | simp only [go_sem,hP,hY,hZ,gA]
 | (with_reducible refine aF hQ ?_;simp only [az,aB,Option.some.injEq,exists_eq_left',go_sem,hP,hY,hZ,gA];repeat' (first | exact Ok.out | with_reducible refine aG ?_ ?_ | (simp;done))))
 refine bj.nT 3 1 rfl ?_
 simp only [go_sem,hP,hY,hZ,gA]
 refine cM 1 1 (bj.ind (ι:=List Pm×Nat×List ay×Nat) (fun i=>f.params.drop i.2.1=i.1∧i.2.2.1++i.1.map (·.name)=f.zm∧i.2.2.2=i.2.2.1.length) (fun i=>i.1.length)
  (fun i=> [(1, .ptr 0 0),(3, .slice (.tok 0) 1 (i.2.2.1.map encStr)),(7, .slice .shared 2 (f.params.map fE)),(8, .int .i64 (f.params.length:Int)),(9, .int .i64 (i.2.1:Int))]) (fun i=>⟨[cA f],[some i.2.2.2]⟩) ?_ (f.params,0,[],0) ⟨rfl,rfl,rfl⟩)
 rintro⟨rest,k,out,n⟩ ⟨h1,h2,h3⟩ IH
 dsimp only at h1 h2 h3
 subst h3
 have hlo:out.length+rest.length<1000000:=by
  have:=congrArg List.length h2
  simp only [List.length_append,List.length_map,Pc.zm]at this
  omega
 cases rest with
 | nil=>
  have hP:=drop_nil h1
  simp only [List.map_nil,List.append_nil]at h2
  subst hR
  rw [← h2]at hQ
  have gf:=jR (l:=out) (nx:=f.vars) rfl (by omega) (g:= .shared)
  repeat' (first
 | simp only [go_sem,hP,hY,hZ,gA,gf]
 | (with_reducible refine aF hQ ?_;simp only [az,aB,Option.some.injEq,exists_eq_left',go_sem,hP,hY,hZ,gA];repeat' (first | exact Ok.out | with_reducible refine aG ?_ ?_ | (simp;done))))
 | cons a rest=>
  obtain⟨hY,g2,hP,g4⟩:=drop_cons h1
  have cz:k<4611686018427387904:=by omega
  have hZ:(out.length+1)*17≤bx:=by unfold bx;omega
  repeat' (first
 | simp only [go_sem,hP,hY,hZ,gA]
 | (with_reducible refine aF hQ ?_;simp only [az,aB,Option.some.injEq,exists_eq_left',go_sem,hP,hY,hZ,gA];repeat' (first | exact Ok.out | with_reducible refine aG ?_ ?_ | (simp;done))))
  refine eo 1 1 ?_ ?_ (IH (rest,k+1,out++ [a.name],out.length+1) ⟨g2,by rw [← h2];simp,by simp⟩ (Nat.lt_succ_self _))
  ·(simp only [go_sem,hP,hY,hZ,gA,aN cz,List.map_append,List.map_cons,List.map_nil,encStr];try exact bQ)
  ·(simp only [go_sem,hP,hY,hZ,gA,aN cz,List.map_append,List.map_cons,List.map_nil,encStr];try exact bQ)
def eQ:ay:= [109,97,105,110]
def Sm.known (p:Pg) (f:Pc) (procs:List ay) (v:Sm):Bool:=
 !(v.said.any fun n=>f.jS p n==0) && (v.kind != 4 || (v.proc != eQ && dW procs v.proc))
structure Pc.Small (p:Pg) (f:Pc):Prop where
 par:f.params.length<1000000
 vars:f.vars.length<1000000
 Hj:p.globals.length<1000000
def Aa (p:Pg) (f:Pc):List ay→Bool
 | []=>true
 | n::l=>if f.jS p n==0 then false else Aa p f l
theorem Ed (p:Pg) (f:Pc) : ∀ l,Aa p f l = !(l.any fun n=>f.jS p n==0)
 | []=>rfl
 | n::l=>by
  simp only [Aa,List.any_cons,Ed p f l]
  cases (f.jS p n==0) <;> simp
theorem Hq (v:Sm) (h:v.oU):v.said.length<3000000:=by
 have : ∀ (l:List Ar) (out:List ay),(Ar.said out l).length≤out.length+2*Ar.aW l:=by
  intro l
  induction l with
  | nil=>intro out;simp [Ar.said]
  | cons a l ih=>
   intro out
   simp only [Ar.said,Ar.aW]
   refine Nat.le_trans (ih _) ?_
   have:=ko a.x
   have:1≤a.x.size:=by obtain⟨_,_,_,_⟩:=a.x;simp [Ex.size]
   simp only [List.length_append]
   split <;> simp <;> omega
 have h1:=this v.args (v.ra++v.x.names)
 have h2:=ko v.x
 have h3:=h.2.2
 have h4:v.ra.length≤1:=by unfold Sm.ra;split <;> simp
 simp only [List.length_append]at h1
 unfold Sm.said
 omega
theorem Wq {p:Pg} {f:Pc} {procs:List ay} {v:Sm} (hs:f.Small p) (AR:procs.length<1000000) (hv:v.oU) (s:St):aD Tryz.prog o4 [.agg (cd p), .agg (cA f), .slice .shared 1 (procs.map encStr), .agg (bd v)] s (.bool (v.known p f procs)) s:=by
 refine aD.pure ?_ (by simp [D.bJ,D.ok,iR,yM,nh,Tag.ok,eD]) rfl s
 have hn:=fun s=>zj hv s
 have hk:=fun n s=>Hp (p:=p) (f:=f) (by have:=hs.par;omega) (by have:=hs.vars;omega) (by have:=hs.Hj;omega) n s
 have Zw:=iI (l:=procs) (by omega) v.proc
 have hl:=Hq v hv
 generalize h:v.known p f procs=q
 simp only [Sm.known, ← Ed]at h
 unfold S0
 refine aD.go B0 rfl fun B Q hB hQ=> ?_
 have⟨hP,hY,hZ,gA⟩:=bw
 repeat' (first
 | simp only [go_sem,hP,hY,hZ,gA]
 | (with_reducible refine CU (hn _) ?_)
 | (with_reducible refine aF hQ ?_;simp only [az,aB,Option.some.injEq,exists_eq_left',go_sem,hP,hY,hZ,gA];repeat' (first | exact Ok.out | with_reducible refine aG ?_ ?_ | (simp;done))))
 refine cM 3 0 (bj.ind (ι:=List ay×Nat) (fun i=>v.said.drop i.2=i.1∧(Aa p f i.1 && (v.kind != 4 || (v.proc != eQ && dW procs v.proc)))=q) (fun i=>i.1.length)
  (fun i=> [(2, .slice .shared 1 (procs.map encStr)),(4, .ptr 0 0),(5, .ptr 1 0),(7, .ptr 2 0),(12, .slice .shared 1 (v.said.map encStr)),(13, .int .i64 (v.said.length:Int)),(14, .int .i64 (i.2:Int))]) (fun i=>⟨[cd p,cA f,bd v],[]⟩) ?_ (v.said,0) ⟨rfl,h⟩)
 rintro⟨rest,k⟩ ⟨h1,h⟩ IH
 dsimp only at h1 h
 cases rest with
 | nil=>
  have hP:=drop_nil h1
  simp only [Aa,Bool.true_and]at h
  rcases Bool.eq_false_or_eq_true (v.kind != 4)with b1 | b1
  ·simp only [b1,Bool.true_or]at h
   subst h
   repeat' (first
 | simp only [go_sem,hP,hY,hZ,gA,b1]
 | (with_reducible refine aF hQ ?_;simp only [az,aB,Option.some.injEq,exists_eq_left',go_sem,hP,hY,hZ,gA];repeat' (first | exact Ok.out | with_reducible refine aG ?_ ?_ | (simp;done))))
  ·simp only [b1,Bool.false_or]at h
   rcases Bool.eq_false_or_eq_true (v.proc != eQ)with b2 | b2
   ·simp only [b2,Bool.true_and]at h
    unfold eQ at b2
    have b3:(v.proc == [109,97,105,110]) = !(v.proc != [109,97,105,110]):=by simp only [bne,Bool.not_not]
    rw [b2]at b3
    simp only [Bool.not_true,Bool.not_false]at b3
    subst h
    repeat' (first
 | simp only [go_sem,hP,hY,hZ,gA,b1,b2,b3]
 | (with_reducible refine CU (Zw _ _) ?_)
 | (with_reducible refine aF hQ ?_;simp only [az,aB,Option.some.injEq,exists_eq_left',go_sem,hP,hY,hZ,gA];repeat' (first | exact Ok.out | with_reducible refine aG ?_ ?_ | (simp;done))))
   ·simp only [b2,Bool.false_and]at h
    unfold eQ at b2
    have b3:(v.proc == [109,97,105,110]) = !(v.proc != [109,97,105,110]):=by simp only [bne,Bool.not_not]
    rw [b2]at b3
    simp only [Bool.not_true,Bool.not_false]at b3
    subst h
    repeat' (first
 | simp only [go_sem,hP,hY,hZ,gA,b1,b2,b3]
 | (with_reducible refine CU (Zw _ _) ?_)
 | (with_reducible refine aF hQ ?_;simp only [az,aB,Option.some.injEq,exists_eq_left',go_sem,hP,hY,hZ,gA];repeat' (first | exact Ok.out | with_reducible refine aG ?_ ?_ | (simp;done))))
 | cons a rest=>
  obtain⟨hY,g2,hP,g4⟩:=drop_cons h1
  have cz:k<4611686018427387904:=by omega
  simp only [Aa]at h
  rcases Bool.eq_false_or_eq_true (f.jS p a==0)with b1 | b1
  ·simp only [b1,if_true,Bool.false_and]at h
   subst h
   repeat' (first
 | simp only [go_sem,hP,hY,hZ,gA,b1]
 | (with_reducible refine CU (hk _ _) ?_)
 | (with_reducible refine aF hQ ?_;simp only [az,aB,Option.some.injEq,exists_eq_left',go_sem,hP,hY,hZ,gA];repeat' (first | exact Ok.out | with_reducible refine aG ?_ ?_ | (simp;done))))
  ·simp only [b1,Bool.false_eq_true,if_false]at h
   repeat' (first
 | simp only [go_sem,hP,hY,hZ,gA,b1]
 | (with_reducible refine CU (hk _ _) ?_)
 | (with_reducible refine aF hQ ?_;simp only [az,aB,Option.some.injEq,exists_eq_left',go_sem,hP,hY,hZ,gA];repeat' (first | exact Ok.out | with_reducible refine aG ?_ ?_ | (simp;done))))
   refine eo 3 0 ?_ ?_ (IH (rest,k+1) ⟨g2,h⟩ (Nat.lt_succ_self _))
   ·(simp only [go_sem,hP,hY,hZ,gA,aN cz];try exact bQ)
   ·(simp only [go_sem,hP,hY,hZ,gA,aN cz];try exact bQ)
end Go.Abs

/-! ScP -/

namespace Go.Abs
theorem Ju : ∀ (l pre:List ay),wG pre l=true↔(∃ x∈l,x∈pre)∨¬ l.Nodup
 | [],pre=>by simp [wG]
 | s::l,pre=>by
  simp only [wG]
  by_cases h:dW pre s=true
  ·simp only [h,if_true,true_iff]
   exact .inl ⟨s,List.mem_cons_self,(fH _ _).1 h⟩
  ·have h':s∉pre:=fun m=>h ((fH _ _).2 m)
   simp only [h,if_false,Bool.false_eq_true]
   rw [Ju l (pre++ [s])]
   simp only [List.mem_append,List.mem_singleton,List.mem_cons,List.nodup_cons,exists_eq_or_imp]
   constructor
   ·rintro(⟨x,m,h1 | h1⟩ | h1)
    ·exact .inl (.inr ⟨x,m,h1⟩)
    ·have h1:x=s:=by simpa using h1
     subst h1;exact .inr fun h=>h.1 m
    ·exact .inr fun h=>h1 h.2
   ·rintro((h1 | ⟨x,m,h1⟩) | h1)
    ·exact absurd h1 h'
    ·exact .inl ⟨x,m, .inl h1⟩
    ·by_cases m:s∈l
     ·exact .inl ⟨s,m, .inr (.inl rfl)⟩
     ·exact .inr fun h=>h1 ⟨m,h⟩
theorem Ee (l:List ay):fM l=true↔¬ l.Nodup:=by
 unfold fM;rw [Ju];simp
theorem OV (a b:List ay):fM (a++b)=(fM a || (fM b || b.any (dW a))):=by
 have h:fM (a++b)=true↔(fM a || (fM b || b.any (dW a)))=true:=by
  rw [Ee,List.nodup_append]
  simp only [Bool.or_eq_true,Ee,List.any_eq_true,fH]
  constructor
  ·intro h
   by_cases ha:a.Nodup
   ·by_cases hb:b.Nodup
    ·refine .inr (.inr (Classical.byContradiction fun hn=>h ⟨ha,hb,fun x hx y hy e=>hn ⟨y,hy,e ▸ hx⟩⟩))
    ·exact .inr (.inl hb)
   ·exact .inl ha
  ·rintro(h | h | ⟨x,h1,h2⟩) ⟨h3,h4,h5⟩
   ·exact h h3
   ·exact h h4
   ·exact h5 x h2 x h1 rfl
 cases h1:fM (a++b) <;> cases h2:(fM a || (fM b || b.any (dW a))) <;> simp_all
theorem Hr (name:ay) : ∀ (l:List Pc) (k:Nat),(iX name l=none∧nk name (k:Int) (l.map (·.name)) = -1)∨∃ f j,iX name l=some f∧l[j]? = some f∧nk name (k:Int) (l.map (·.name))=((k+j:Nat):Int)
 | [],k=> .inl ⟨rfl,rfl⟩
 | f::l,k=>by
  by_cases h:f.name=name
  ·subst h
   refine .inr ⟨f,0,by simp [iX],rfl,by simp [nk]⟩
  ·have h1:(f.name==name)=false:=by simp [h]
   have h2:(name==f.name)=false:=by simp [Ne.symm h]
   simp only [iX,h1,Bool.false_eq_true,if_false,List.map_cons,nk,h2]
   rcases Hr name l (k+1)with ⟨g1,g2⟩ | ⟨g,j,g1,g2,g3⟩
   ·exact .inl ⟨g1,by rw [← g2];rfl⟩
   ·refine .inr ⟨g,j+1,g1,by simpa using g2, ?_⟩
    rw [show((k:Int)+1)=((k+1:Nat):Int)from rfl,g3]
    congr 1;omega
theorem ph {name:ay} {f:Pc} : ∀ {l:List Pc},iX name l=some f→f∈l∧f.name=name
 | g::l,h=>by
  simp only [iX]at h
  split at h
  ·rename_i e;cases h;exact⟨List.mem_cons_self,by simpa using e⟩
  ·have:=ph h;exact⟨List.mem_cons_of_mem _ this.1,this.2⟩
mutual
theorem OW (deep bS:Int) (aT:Bool) (out:List It) : ∀ s:Sm,∃ e,iy deep bS aT out s=out++e
 | ⟨id,kind,labels,name,proc,x,has,args,aY,e⟩=>by
  simp only [iy]
  split
  ·obtain⟨e1,h1⟩:=rK (deep+1) id false (out++ [⟨⟨id,kind,labels,name,proc,x,has,args,aY,e⟩,deep,bS,aT⟩]) aY
   obtain⟨e2,h2⟩:=rK (deep+1) id true (e8 (deep+1) id false (out++ [⟨⟨id,kind,labels,name,proc,x,has,args,aY,e⟩,deep,bS,aT⟩]) aY) e
   rw [h2,h1]
   exact⟨_,by rw [List.append_assoc,List.append_assoc]⟩
  ·exact⟨_,rfl⟩
theorem rK (deep bS:Int) (aT:Bool) (out:List It) : ∀ l:List Sm,∃ e,e8 deep bS aT out l=out++e
 | []=>⟨[],by simp [e8]⟩
 | s::l=>by
  simp only [e8]
  split
  ·obtain⟨e1,h1⟩:=OW deep bS aT out s
   obtain⟨e2,h2⟩:=rK deep bS aT (iy deep bS aT out s) l
   rw [h2,h1]
   exact⟨_,by rw [List.append_assoc]⟩
  ·exact⟨[],by simp⟩
end
mutual
theorem OX (deep bS:Int) (aT:Bool) (out:List It) : ∀ s:Sm,(iy deep bS aT out s).length≤200→(∀ i∈iy deep bS aT out s,i.deep≤12)→(iy deep bS aT out s).map It.s=out.map It.s++s.pre
 | ⟨id,kind,labels,name,proc,x,has,args,aY,e⟩,h1,h2=>by
  simp only [iy,Sm.pre]at h1 h2 ⊢
  by_cases hd:deep≤12
  ·simp only [hd,decide_true,if_true]at h1 h2 ⊢
   obtain⟨e2,g2⟩:=rK (deep+1) id true (e8 (deep+1) id false (out++ [⟨⟨id,kind,labels,name,proc,x,has,args,aY,e⟩,deep,bS,aT⟩]) aY) e
   have k1:(e8 (deep+1) id false (out++ [⟨⟨id,kind,labels,name,proc,x,has,args,aY,e⟩,deep,bS,aT⟩]) aY).length≤200:=by
    rw [g2,List.length_append]at h1;omega
   have k2 : ∀ i∈e8 (deep+1) id false (out++ [⟨⟨id,kind,labels,name,proc,x,has,args,aY,e⟩,deep,bS,aT⟩]) aY,i.deep≤12:=fun i m=>h2 i (by rw [g2];exact List.mem_append_left _ m)
   rw [uX (deep+1) id true _ e h1 h2,uX (deep+1) id false _ aY k1 k2]
   simp
  ·simp only [hd,decide_false,Bool.false_eq_true,if_false]at h1 h2
   exact absurd (h2 _ (List.mem_append_right _ (List.mem_singleton.2 rfl))) (by simpa using hd)
theorem uX (deep bS:Int) (aT:Bool) (out:List It) : ∀ l:List Sm,(e8 deep bS aT out l).length≤200→(∀ i∈e8 deep bS aT out l,i.deep≤12)→(e8 deep bS aT out l).map It.s=out.map It.s++Sm.dh l
 | [],h1,h2=>by simp [e8,Sm.dh]
 | s::l,h1,h2=>by
  simp only [e8,Sm.dh]at h1 h2 ⊢
  by_cases hc:(out.length:Int)≤200
  ·simp only [hc,decide_true,if_true]at h1 h2 ⊢
   obtain⟨e2,g2⟩:=rK deep bS aT (iy deep bS aT out s) l
   have k1:(iy deep bS aT out s).length≤200:=by rw [g2,List.length_append]at h1;omega
   have k2 : ∀ i∈iy deep bS aT out s,i.deep≤12:=fun i m=>h2 i (by rw [g2];exact List.mem_append_left _ m)
   rw [uX deep bS aT _ l h1 h2,OX deep bS aT out s k1 k2]
   simp
  ·simp only [hc,decide_false,Bool.false_eq_true,if_false]at h1
   omega
end
theorem Hs : ∀ (l:List Pc) (out:List It),(allM out l).length≤200→(∀ i∈allM out l,i.deep≤12)→(∀ f∈l,f.flat.map It.s=Sm.dh f.body)∧(allM out l).map It.s=out.map It.s++(l.map fun f=>Sm.dh f.body).flatten
 | [],out,h1,h2=>⟨fun f m=>(by cases m),by simp [allM]⟩
 | f::l,out,h1,h2=>by
  simp only [allM]at h1 h2 ⊢
  by_cases hc:(((out++f.flat).length:Nat):Int) > 200
  ·simp only [hc,decide_true,if_true]at h1;omega
  ·simp only [hc,decide_false,Bool.false_eq_true,if_false]at h1 h2 ⊢
   obtain⟨k1,k2⟩:=Hs l (out++f.flat) h1 h2
   have vL : ∀ (l:List Pc) (out:List It),∃ e,allM out l=out++e:=by
    intro l
    induction l with
    | nil=>intro out;exact⟨[],by simp [allM]⟩
    | cons g l ih=>
     intro out
     simp only [allM]
     split
     ·exact⟨_,rfl⟩
     ·obtain⟨e,h⟩:=ih (out++g.flat);exact⟨g.flat++e,by rw [h];simp⟩
   obtain⟨e,he⟩:=vL l (out++f.flat)
   have k3:f.flat.map It.s=Sm.dh f.body:=by
    have:=uX 1 0 false [] f.body (by
     have:f.flat.length≤200:=by simp only [List.length_append]at hc;omega
     exact this) (fun i m=>h2 i (by rw [he];exact List.mem_append_left _ (List.mem_append_right _ m)))
    simpa [Pc.flat]using this
   refine⟨fun g m=> ?_, ?_⟩
   ·rcases List.mem_cons.1 m with rfl | m
    ·exact k3
    ·exact k1 g m
   ·rw [k2];simp [k3]
theorem zn : ∀ (l:List It) (n:Nat),It.dT n l=true→(∀ i∈l,i.deep≤12)∧∀ (j:Nat) (i:It),l[j]? = some i→i.s.id=((n+j+1:Nat):Int)
 | [],n,h=>⟨fun i m=>(by cases m),fun j i h=>by simp at h⟩
 | a::l,n,h=>by
  simp only [It.dT]at h
  split at h
  ·cases h
  ·rename_i c
   simp only [Bool.or_eq_true,not_or,bne_iff_ne,ne_eq,Decidable.not_not,decide_eq_true_eq,Int.not_lt,gt_iff_lt]at c
   obtain⟨k1,k2⟩:=zn l (n+1) h
   refine⟨fun i m=> ?_,fun j i hj=> ?_⟩
   ·rcases List.mem_cons.1 m with rfl | m
    ·exact c.1.2
    ·exact k1 i m
   ·cases j with
    | zero=>simp at hj;subst hj;rw [c.1.1]
    | succ j=>simp at hj;rw [k2 j i hj];congr 1;omega
theorem Jv {p:Pg} (h:p.may=true):p.all.length≤200∧It.dT 0 p.all=true:=by
 unfold Pg.may at h
 split at h
 ·cases h
 ·split at h
  ·cases h
  ·split at h
   ·cases h
   ·rename_i c
    exact⟨by simp only [decide_eq_true_eq,Int.not_lt,gt_iff_lt]at c;omega,h⟩
theorem R9 {p:Pg} (h:p.may=true):(∀ f∈p.procs,f.flat.map It.s=Sm.dh f.body)∧p.all.map It.s=p.pre:=by
 obtain⟨h1,h2⟩:=Jv h
 have:=Hs p.procs [] h1 (zn _ 0 h2).1
 simpa [Pg.pre,Pg.all]using this
theorem Zx {p:Pg} (h:p.may=true) {i:Nat} {v:Sm} (hv:p.pre[i]? = some v):v.id=((i+1:Nat):Int):=by
 rw [← (R9 h).2,List.getElem?_map,Option.map_eq_some_iff]at hv
 obtain⟨it,h1,rfl⟩:=hv
 have:=(zn _ 0 (Jv h).2).2 i it h1
 rw [this];congr 1;omega
end Go.Abs

/-! Sc4 -/

namespace Go.Abs
set_option maxRecDepth 8000
open Go.Proofs
structure Pg.jX (p:Pg):Prop where
 Sb:p.FE
 sz:p.size≤900000
mutual
theorem Zy : ∀ s:Sm,s.uS→s.size<1000000→∀ v∈s.pre,v.oU∧v.l9
 | ⟨id,kind,labels,name,proc,x,has,args,aY,aT⟩,h,hs,v,m=>by
  simp only [Sm.uS]at h
  simp only [Sm.size]at hs
  simp only [Sm.pre,List.mem_cons,List.mem_append]at m
  rcases m with rfl | m | m
  ·exact⟨⟨h.1.xt,fun a ha=>(h.1.arg a ha).2.1,by dsimp only;omega⟩,h.1⟩
  ·exact Ab aY h.2.1 (by omega) v m
  ·exact Ab aT h.2.2 (by omega) v m
theorem Ab : ∀ l:List Sm,Sm.jz l→Sm.aW l<1000000→∀ v∈Sm.dh l,v.oU∧v.l9
 | [],h,hs,v,m=>by simp [Sm.dh]at m
 | s::l,h,hs,v,m=>by
  simp only [Sm.jz]at h
  simp only [Sm.aW]at hs
  simp only [Sm.dh,List.mem_append]at m
  rcases m with m | m
  ·exact Zy s h.1 (by omega) v m
  ·exact Ab l h.2 (by omega) v m
end
theorem Pg.jX.said {p:Pg} (h:p.jX) {f:Pc} (hf:f∈p.procs) : ∀ v∈Sm.dh f.body,v.oU:=fun v m=>by
 have h1:=Pc.bW hf
 have h2:=h.sz
 simp only [Pg.size]at h2
 simp only [Pc.size]at h1
 exact(Ab f.body (h.Sb.body f hf) (by omega) v m).1
theorem Pg.jX.small {p:Pg} (h:p.jX) {f:Pc} (hf:f∈p.procs):f.Small p:=by
 have h1:=Pc.bW hf
 have h2:=h.sz
 simp only [Pg.size]at h2
 simp only [Pc.size]at h1
 exact⟨by omega,by omega,by omega⟩
theorem Pg.jX.procs {p:Pg} (h:p.jX):p.procs.length≤900000∧Pc.aW p.procs≤900000∧p.globals.length≤900000:=by
 have h2:=h.sz
 have h3:=Pc.da p.procs
 simp only [Pg.size]at h2
 omega
def Pg.pn (p:Pg):List ay:=p.procs.map (·.name)
def sh (p:Pg) (f:Pc) (procs:List ay):List Sm→Option Sm
 | []=>none
 | v::l=>if v.known p f procs then sh p f procs l else some v
def oW (p:Pg) (procs:List ay):List Pc→Int×Int
 | []=>(0,0)
 | f::l=>if fM (p.globals++f.own)then(5,0)else match sh p f procs (Sm.dh f.body)with | some v=>(5,v.id) | none=>oW p procs l
def Pg.ql (p:Pg):Bool:=match p.find eQ with | none=>true | some m=>decide ((m.params.length:Int) > 0)
def Pg.scope (p:Pg):Int×Int:=
 if p.may then if fM p.globals || (fM p.pn || p.ql)then(5,0)else oW p p.pn p.procs else(1,0)
theorem Sc (p:Pg) (hl:p.globals.length<1000000) (n:ay):aD Tryz.prog ny ([.str n]++ [.ptr 0 0]) ⟨[cd p],[]⟩ (.bool (dW p.globals n)) ⟨[cd p],[]⟩:=by
 show aD Tryz.prog ny [.str n, .ptr 0 0] _ _ _
 have sk:=iI (l:=p.globals) (by omega) n
 refine aD.go Al rfl fun B Q hB hQ=> ?_
 have⟨hP,hY,hZ,gA⟩:=bw
 repeat' (first
 | simp only [go_sem,hP,hY,hZ,gA]
 | (with_reducible refine CU (sk _ _) ?_)
 | (with_reducible refine aF hQ ?_;simp only [az,aB,Option.some.injEq,exists_eq_left',go_sem,hP,hY,hZ,gA];repeat' (first | exact Ok.out | with_reducible refine aG ?_ ?_ | (simp;done))))
theorem ac9 (n m:Nat) (p:Pg):D.gG n m (gO p)=gO p:=gU n m _ (xi p)
attribute [go_sem] ac9
theorem Wr {p:Pg} {f:Pc} {procs:List ay} {v:Sm} (hs:f.Small p) (AR:procs.length<1000000) (hv:v.oU) (g:Tag) (s:St):aD Tryz.prog o4 [.agg (cd p), .agg (cA f), .slice g 1 (procs.map encStr), .agg (bd v)] s (.bool (v.known p f procs)) s:=
 eg.Ba (.cons (Wk.refl _) (.cons (Wk.refl _) (.cons (Wk.shared g 1 _) (lS.refl _)))) (Wq hs AR hv s)
theorem tV {p:Pg} (h:p.jX) (s:St):aD Tryz.prog kW [.agg (cd p)] s (.agg [.int .i64 p.scope.1, .int .i64 p.scope.2]) s:=by
 refine aD.pure ?_ (by simp [D.bJ,D.ok,iR]) rfl s
 have hm:=fun s=>Hk h.Sb s
 simp only [z7]at hm
 obtain⟨tf,sy,x4⟩:=h.procs
 have dV:=fun s=>Cb (p:=p) (by omega) s
 have ox:=fun s=>Bl (l:=p.globals) (by omega) .shared s
 have hpn:p.pn.length=p.procs.length:=by simp [Pg.pn]
 have BI:=fun g s=>Bl (l:=p.pn) (by omega) g s
 have hix:=fun g s=>(Jq (l:=p.pn) (by omega) eQ s).Ow (Wk.shared g 1 (p.pn.map encStr))
 have Bm:=fun g s=>(show aD Tryz.prog im [.slice g 1 (p.pn.map encStr), .str [109,97,105,110]] s (.int .i64 (nk eQ 0 p.pn)) s from hix g s)
 generalize hR:p.scope=R
 simp only [Pg.scope]at hR
 unfold S0
 rcases Bool.eq_false_or_eq_true p.may with hb | hb
 case inr=>
  simp only [hb]at hm
  simp only [hb,Bool.false_eq_true,if_false]at hR
  subst hR
  refine aD.go uK rfl fun B Q hB hQ=> ?_
  have⟨hP,hY,hZ,gA⟩:=bw
  repeat' (first
 | simp only [go_sem,hP,hY,hZ,gA]
 | (with_reducible refine CU (hm _) ?_)
 | (with_reducible refine aF hQ ?_;simp only [az,aB,Option.some.injEq,exists_eq_left',go_sem,hP,hY,hZ,gA];repeat' (first | exact Ok.out | with_reducible refine aG ?_ ?_ | (simp;done))))
 simp only [hb]at hm
 simp only [hb,if_true]at hR
 refine aD.go uK rfl fun B Q hB hQ=> ?_
 have⟨hP,hY,hZ,gA⟩:=bw
 repeat' (first
 | simp only [go_sem,hP,hY,hZ,gA]
 | (with_reducible refine CU (hm _) ?_)
 | (with_reducible refine aF hQ ?_;simp only [az,aB,Option.some.injEq,exists_eq_left',go_sem,hP,hY,hZ,gA];repeat' (first | exact Ok.out | with_reducible refine aG ?_ ?_ | (simp;done))))
 refine bj.nT 3 1 rfl ?_
 simp only [go_sem,hP,hY,hZ,gA]
 refine cM 2 1 (bj.ind (ι:=List Pc×Nat×List ay×Nat) (fun i=>p.procs.drop i.2.1=i.1∧i.2.2.1++i.1.map (·.name)=p.pn∧i.2.2.2=i.2.2.1.length) (fun i=>i.1.length)
  (fun i=> [(1, .ptr 0 0),(2, .ptr 1 0),(3, .slice (.tok 0) 1 (i.2.2.1.map encStr)),(18, .slice .shared 5 (p.procs.map cA)),(19, .int .i64 (p.procs.length:Int)),(20, .int .i64 (i.2.1:Int))]) (fun i=>⟨[cd p,[.int .i64 0, .int .i64 0]],[some i.2.2.2]⟩) ?_ (p.procs,0,[],0) ⟨rfl,rfl,rfl⟩)
 rintro⟨rest,k,out,n⟩ ⟨h1,h2,h3⟩ IH
 dsimp only at h1 h2 h3
 subst h3
 have hlo:out.length+rest.length≤900000:=by
  have:=congrArg List.length h2
  simp only [List.length_append,List.length_map]at this
  omega
 cases rest with
 | cons a rest=>
  obtain⟨hY,g2,hP,g4⟩:=drop_cons h1
  have cz:k<4611686018427387904:=by omega
  have hZ:(out.length+1)*17≤bx:=by unfold bx;omega
  repeat' (first
 | simp only [go_sem,hP,hY,hZ,gA]
 | (with_reducible refine aF hQ ?_;simp only [az,aB,Option.some.injEq,exists_eq_left',go_sem,hP,hY,hZ,gA];repeat' (first | exact Ok.out | with_reducible refine aG ?_ ?_ | (simp;done))))
  refine eo 2 1 ?_ ?_ (IH (rest,k+1,out++ [a.name],out.length+1) ⟨g2,by rw [← h2];simp,by simp⟩ (Nat.lt_succ_self _))
  ·(simp only [go_sem,hP,hY,hZ,gA,aN cz,List.map_append,List.map_cons,List.map_nil,encStr];try exact bQ)
  ·(simp only [go_sem,hP,hY,hZ,gA,aN cz,List.map_append,List.map_cons,List.map_nil,encStr];try exact bQ)
 | nil=>
  have hP:=drop_nil h1
  simp only [List.map_nil,List.append_nil]at h2
  subst h2
  rcases Bool.eq_false_or_eq_true (fM p.globals)with b1 | b1
  ·simp only [b1,Bool.true_or,if_true]at hR
   subst hR
   repeat' (first
 | simp only [go_sem,hP,hY,hZ,gA,b1]
 | (with_reducible refine CU (Bm _ _) ?_)
 | (with_reducible refine CU (ox _) ?_)
 | (with_reducible refine CU (BI _ _) ?_)
 | (with_reducible refine aF hQ ?_;simp only [az,aB,Option.some.injEq,exists_eq_left',go_sem,hP,hY,hZ,gA];repeat' (first | exact Ok.out | with_reducible refine aG ?_ ?_ | (simp;done))))
  rcases Bool.eq_false_or_eq_true (fM p.pn)with b2 | b2
  ·simp only [b1,b2,Bool.true_or,Bool.or_true,if_true]at hR
   subst hR
   repeat' (first
 | simp only [go_sem,hP,hY,hZ,gA,b1,b2]
 | (with_reducible refine CU (Bm _ _) ?_)
 | (with_reducible refine CU (ox _) ?_)
 | (with_reducible refine CU (BI _ _) ?_)
 | (with_reducible refine aF hQ ?_;simp only [az,aB,Option.some.injEq,exists_eq_left',go_sem,hP,hY,hZ,gA];repeat' (first | exact Ok.out | with_reducible refine aG ?_ ?_ | (simp;done))))
  rcases Hr eQ p.procs 0 with ⟨e1,e2⟩ | ⟨m,j,e1,e2,e3⟩
  ·have b3:p.ql=true:=by unfold Pg.ql Pg.find;rw [e1]
   have hi:nk eQ 0 p.pn = -1:=e2
   simp only [b1,b2,b3,Bool.or_true,if_true]at hR
   subst hR
   simp only [hi]at Bm
   have d1:decide ((-1:Int)<0)=true:=by decide
   repeat' (first
 | simp only [go_sem,hP,hY,hZ,gA,b1,b2,d1]
 | (with_reducible refine CU (Bm _ _) ?_)
 | (with_reducible refine CU (ox _) ?_)
 | (with_reducible refine CU (BI _ _) ?_)
 | (with_reducible refine aF hQ ?_;simp only [az,aB,Option.some.injEq,exists_eq_left',go_sem,hP,hY,hZ,gA];repeat' (first | exact Ok.out | with_reducible refine aG ?_ ?_ | (simp;done))))
  have hi:nk eQ 0 p.pn=((j:Nat):Int):=by rw [show p.pn=p.procs.map (·.name)from rfl];simpa using e3
  simp only [hi]at Bm
  have d1:decide (((j:Nat):Int)<0)=false:=by simp
  have hj:j<p.procs.length:=(List.getElem?_eq_some_iff.1 e2).1
  have b3:p.ql=decide ((m.params.length:Int) > 0):=by unfold Pg.ql Pg.find;rw [e1]
  rw [b3]at hR
  rcases Bool.eq_false_or_eq_true (decide ((m.params.length:Int) > 0))with b4 | b4
  ·simp only [b1,b2,b4,Bool.or_true,if_true]at hR
   subst hR
   repeat' (first
 | simp only [go_sem,hP,hY,hZ,gA,b1,b2,d1,e2,b4]
 | (with_reducible refine CU (Bm _ _) ?_)
 | (with_reducible refine CU (ox _) ?_)
 | (with_reducible refine CU (BI _ _) ?_)
 | (with_reducible refine aF hQ ?_;simp only [az,aB,Option.some.injEq,exists_eq_left',go_sem,hP,hY,hZ,gA];repeat' (first | exact Ok.out | with_reducible refine aG ?_ ?_ | (simp;done))))
  simp only [b1,b2,b4,Bool.or_false,Bool.false_eq_true,if_false]at hR
  repeat' (first
 | simp only [go_sem,hP,hY,hZ,gA,b1,b2,d1,e2,b4]
 | (with_reducible refine CU (Bm _ _) ?_)
 | (with_reducible refine CU (ox _) ?_)
 | (with_reducible refine CU (BI _ _) ?_)
 | (with_reducible refine CU (dV _) ?_)
 | (with_reducible refine aF hQ ?_;simp only [az,aB,Option.some.injEq,exists_eq_left',go_sem,hP,hY,hZ,gA];repeat' (first | exact Ok.out | with_reducible refine aG ?_ ?_ | (simp;done))))
  refine cM 2 1 (bj.ind (ι:=List Pc×Nat) (fun i=>p.procs.drop i.2=i.1∧oW p p.pn i.1=R) (fun i=>i.1.length)
   (fun i=> [(1, .ptr 0 0),(2, .ptr 1 0),(3, .slice (.tok 0) 1 (p.pn.map encStr)),(7, .dI (gO p) 0),(57, .slice .shared 5 (p.procs.map cA)),(58, .int .i64 (p.procs.length:Int)),(59, .int .i64 (i.2:Int))]) (fun i=>⟨[cd p,[.int .i64 0, .int .i64 0]],[some p.pn.length]⟩) ?_ (p.procs,0) ⟨rfl,hR⟩)
  clear IH h1 hP hR
  rintro⟨rest,k⟩ ⟨h1,hR⟩ IH
  dsimp only at h1 hR
  cases rest with
  | nil=>
   have hP:=drop_nil h1
   simp only [oW]at hR
   subst hR
   repeat' (first
 | simp only [go_sem,hP,hY,hZ,gA]
 | (with_reducible refine aF hQ ?_;simp only [az,aB,Option.some.injEq,exists_eq_left',go_sem,hP,hY,hZ,gA];repeat' (first | exact Ok.out | with_reducible refine aG ?_ ?_ | (simp;done))))
  | cons f rest=>
   obtain⟨hY,g2,hP,g4⟩:=drop_cons h1
   have cz:k<4611686018427387904:=by omega
   have x5:=List.mem_of_getElem? hY
   have Ef:=h.small x5
   have OY:=fun s=>ac8 (f:=f) Ef.par Ef.vars s
   have oL:f.own.length<4611686018427387904:=by have h1:=Ef.par;have h2:=Ef.vars;unfold Pc.own Pc.zm;simp;omega
   have Zz:=fun s=>Bl (l:=f.own) oL .shared s
   have AS:=fun {s:St} {o:Nat} (ho:s.aA[o]? = some (cd p))=>wC (l:=f.own) oL (f:=ny) (row:=cd p) (b:=dW p.globals) (iR p) (by with_unfolding_all rfl) (fun x _=>Sc p Ef.Hj x) ho
   have Sd:=fun {s:St} {o:Nat} (ho:s.aA[o]? = some (cd p))=>(show aD Tryz.prog fG [.slice .shared 1 (f.own.map encStr), .gn 63 [.ptr o 0]] s (.bool (f.own.any (dW p.globals))) s from AS ho)
   simp only [oW,OV,b1,Bool.false_or]at hR
   rcases Bool.eq_false_or_eq_true (fM f.own)with c1 | c1
   ·simp only [c1,Bool.true_or,if_true]at hR
    subst hR
    repeat' (first
 | simp only [go_sem,hP,hY,hZ,gA,c1]
 | (with_reducible refine CU (OY _) ?_)
 | (with_reducible refine CU (Zz _) ?_)
 | (with_reducible refine CU (Sd (by with_unfolding_all rfl)) ?_)
 | (with_reducible refine aF hQ ?_;simp only [az,aB,Option.some.injEq,exists_eq_left',go_sem,hP,hY,hZ,gA];repeat' (first | exact Ok.out | with_reducible refine aG ?_ ?_ | (simp;done))))
   rcases Bool.eq_false_or_eq_true (f.own.any (dW p.globals))with c2 | c2
   ·simp only [c1,c2,Bool.false_or,if_true]at hR
    subst hR
    repeat' (first
 | simp only [go_sem,hP,hY,hZ,gA,c1,c2]
 | (with_reducible refine CU (OY _) ?_)
 | (with_reducible refine CU (Zz _) ?_)
 | (with_reducible refine CU (Sd (by with_unfolding_all rfl)) ?_)
 | (with_reducible refine aF hQ ?_;simp only [az,aB,Option.some.injEq,exists_eq_left',go_sem,hP,hY,hZ,gA];repeat' (first | exact Ok.out | with_reducible refine aG ?_ ?_ | (simp;done))))
   simp only [c1,c2,Bool.or_self,Bool.false_eq_true,if_false]at hR
   obtain⟨it,wF,Co⟩:=RP hY (by omega)
   rw [← wF]at hR
   have ZA:it.length≤900000:=by
    have e:=congrArg List.length wF
    have e2:=(pE p).2 k f hY
    obtain⟨a,b,e',_,_,e3,e4⟩:=e2
    have e5:=pF p
    have e6:=congrArg List.length e3
    rw [e4]at e5
    simp only [List.length_map,List.length_append]at e e5 e6
    omega
   repeat' (first
 | simp only [go_sem,hP,hY,hZ,gA,c1,c2]
 | (with_reducible refine CU (OY _) ?_)
 | (with_reducible refine CU (Zz _) ?_)
 | (with_reducible refine CU (Sd (by with_unfolding_all rfl)) ?_)
 | (with_reducible refine CU (Co _) ?_)
 | (with_reducible refine aF hQ ?_;simp only [az,aB,Option.some.injEq,exists_eq_left',go_sem,hP,hY,hZ,gA];repeat' (first | exact Ok.out | with_reducible refine aG ?_ ?_ | (simp;done))))
   obtain⟨q,hq⟩ : ∃ q,sh p f p.pn (it.map Im.s)=q:=⟨_,rfl⟩
   rw [hq]at hR
   refine cM 3 1 (bj.ind (ι:=List Im×Nat) (fun i=>it.drop i.2=i.1∧sh p f p.pn (i.1.map Im.s)=q) (fun i=>i.1.length)
    (fun i=> [(1, .ptr 0 0),(2, .ptr 1 0),(3, .slice (.tok 0) 1 (p.pn.map encStr)),(7, .dI (gO p) 0),(9, .ptr 2 0),(57, .slice .shared 5 (p.procs.map cA)),(58, .int .i64 (p.procs.length:Int)),(59, .int .i64 (k:Int)),(76, .slice .shared 17 (it.map eO)),(77, .int .i64 (it.length:Int)),(78, .int .i64 (i.2:Int))]) (fun i=>⟨[cd p,[.int .i64 0, .int .i64 0],cA f],[some p.pn.length]⟩) ?_ (it,0) ⟨rfl,hq⟩)
   rintro⟨oY,n⟩ ⟨j1,j2⟩ UW
   dsimp only at j1 j2
   have AA:=hP
   cases oY with
   | nil=>
    have aln:=drop_nil j1
    simp only [List.map_nil,sh]at j2
    subst j2
    simp only at hR
    repeat' (first
 | simp only [go_sem,hP,hY,hZ,gA,aln]
 | (with_reducible refine aF hQ ?_;simp only [az,aB,Option.some.injEq,exists_eq_left',go_sem,hP,hY,hZ,gA];repeat' (first | exact Ok.out | with_reducible refine aG ?_ ?_ | (simp;done))))
    refine eo 2 1 ?_ ?_ (IH (rest,k+1) ⟨g2,hR⟩ (Nat.lt_succ_self _))
    ·(simp only [go_sem,hP,hY,hZ,gA,aN cz];try exact bQ)
    ·(simp only [go_sem,hP,hY,hZ,gA,aN cz];try exact bQ)
   | cons i oY=>
    obtain⟨n6,Jw,wH,jg4⟩:=drop_cons j1
    have rI:n<4611686018427387904:=by omega
    have Eg:i.s∈Sm.dh f.body:=by rw [← wF];exact List.mem_map_of_mem (List.mem_of_getElem? n6)
    have hkn:=Wr (v:=i.s) Ef (procs:=p.pn) (by omega) (h.said x5 _ Eg)
    simp only [List.map_cons,sh]at j2
    rcases Bool.eq_false_or_eq_true (i.s.known p f p.pn)with c3 | c3
    ·simp only [c3,if_true]at j2
     repeat' (first
 | simp only [go_sem,hP,hY,hZ,gA,wH,n6,c3]
 | (with_reducible refine CU (hkn _ _) ?_)
 | (with_reducible refine aF hQ ?_;simp only [az,aB,Option.some.injEq,exists_eq_left',go_sem,hP,hY,hZ,gA];repeat' (first | exact Ok.out | with_reducible refine aG ?_ ?_ | (simp;done))))
     refine eo 3 1 ?_ ?_ (UW (oY,n+1) ⟨Jw,j2⟩ (Nat.lt_succ_self _))
     ·(simp only [go_sem,hP,hY,hZ,gA,aN rI];try exact bQ)
     ·(simp only [go_sem,hP,hY,hZ,gA,aN rI];try exact bQ)
    ·simp only [c3,Bool.false_eq_true,if_false]at j2
     subst j2
     simp only at hR
     subst hR
     repeat' (first
 | simp only [go_sem,hP,hY,hZ,gA,wH,n6,c3]
 | (with_reducible refine CU (hkn _ _) ?_)
 | (with_reducible refine aF hQ ?_;simp only [az,aB,Option.some.injEq,exists_eq_left',go_sem,hP,hY,hZ,gA];repeat' (first | exact Ok.out | with_reducible refine aG ?_ ?_ | (simp;done))))
end Go.Abs

/-! Rng -/

namespace Go.Abs
mutual
def Ex.kP:Ex→Prop
 | ⟨_,n,_,kids⟩=>n≤9223372036854775807∧Ex.lD kids
def Ex.lD:List Ex→Prop
 | []=>True
 | x::l=>x.kP∧Ex.lD l
end
end Go.Abs

/-! FineM -/

namespace Go.Abs
mutual
def Sm.kP:Sm→Prop
 | ⟨_,_,_,_,_,x,_,args,aY,aT⟩=>x.kP∧(∀ a∈args,a.x.kP)∧Sm.lD aY∧Sm.lD aT
def Sm.lD:List Sm→Prop
 | []=>True
 | s::l=>s.kP∧Sm.lD l
end
def Pg.kP (p:Pg):Prop:=∀ f∈p.procs,Sm.lD f.body
theorem Eh {f:Pc} : ∀ {l:List Pc} {n:Nat},Pc.eK n l=true→f∈l→(isName f.name=true∧c6 f.vars=true∧c6 f.fin=true∧Pm.dT f.params=true)∧∃ n,(Sm.fT 1 n f.body).1=true
 | g::l,n,h,m=>by
  simp only [Pc.eK]at h
  split at h
  ·cases h
  rename_i c1
  split at h
  ·cases h
  rename_i c2
  split at h
  ·cases h
  rename_i c3
  simp only [Bool.or_eq_true,Bool.not_eq_true',not_or,Bool.not_eq_false]at c1 c2 c3
  rcases List.mem_cons.1 m with rfl | m
  ·exact⟨⟨c1.1.1.2,c1.1.2,c1.2,c2⟩,n,c3⟩
  ·exact Eh h m
mutual
theorem L1 : ∀ (s:Sm) (nest:Int) (n:Nat),(Sm.oE nest n s).1=true→s.size<4611686018427387000→s.uS
 | ⟨id,kind,labels,name,proc,x,has,args,aY,aT⟩,nest,n,hm,hs=>by
  obtain⟨_,_,h1,h2,h3,_⟩:=Ec hm
  rw [Bk]
  rw [(rJ h2).2]at h2
  rw [(rJ h3).2]at h3
  refine⟨Hn h1 hs,sQ aY _ _ h2 ?_,sQ aT _ _ h3 ?_⟩ <;> simp only [Sm.size]at hs <;> omega
theorem sQ : ∀ (l:List Sm) (nest:Int) (n:Nat),(Sm.eK nest n l).1=true→Sm.aW l<4611686018427387000→Sm.jz l
 | [],_,_,_,_=>by simp only [Sm.jz]
 | s::l,nest,n,hm,hs=>by
  simp only [Sm.eK]at hm
  simp only [Sm.aW]at hs
  split at hm
  ·cases hm
  rename_i hc
  simp only [Bool.not_eq_true',Bool.not_eq_false]at hc
  exact⟨L1 s nest n hc (by omega),sQ l nest _ hm (by omega)⟩
end
theorem uY {p:Pg} (h:p.may=true) (hs:p.size<4611686018427387000):p.FE:=by
 have hf:=RX h hs
 rw [← z7]at h
 unfold Pg.Du at h
 split at h
 ·cases h
 refine⟨hf.sz,hf.Hj,hf.mI,fun f m=> ?_⟩
 obtain⟨_,n,e⟩:=Eh h m
 rw [(rJ e).2]at e
 have:=Pc.bW m
 simp only [Pg.size]at hs
 exact sQ f.body 1 n e (by unfold Pc.size at this;omega)
end Go.Abs

/-! Sc5 -/

namespace Go.Abs
set_option maxRecDepth 8000
open Go.Proofs
theorem Se (x:It):(iW x)[1]? = some (.int .i64 x.s.kind):=nd rfl
theorem Sf (x:It):(iW x)[3]? = some (.str x.s.name):=nd rfl
theorem Sg (x:It):(iW x)[4]? = some (.str x.s.proc):=nd rfl
theorem Ws (x:It):List.take 16 (iW x)=iW x:=nd rfl
attribute [go_sem] Se Sf Sg Ws
end Go.Abs

/-! Ar1 -/

namespace Go.Abs
set_option maxRecDepth 8000
open Go.Proofs
def uZ:List Pm→List Ar→Bool
 | [],_=>true
 | _,[]=>true
 | a::l,b::m=>if a.ref==b.ref then uZ l m else false
def xn (l:List Pm) (m:List Ar):Bool:=if(l.length:Int)==(m.length:Int)then uZ l m else false
def Sm.oj (p:Pg) (v:Sm):Bool:=v.kind==4 && match p.find v.proc with | none=>false | some q=>xn q.params v.args
theorem ZC {l:List Pm} {m:List Ar} (hl:l.length<1000000000) (hm:m.length<1000000000) (s:St):aD Tryz.prog tA [.slice .shared 2 (l.map fE), .slice .shared 6 (m.map dR)] s (.bool (xn l m)) s:=by
 refine aD.pure ?_ (by simp [D.bJ,D.ok,Tag.ok,LK,Ft]) rfl s
 generalize h:xn l m=q
 simp only [xn]at h
 unfold S0
 have b0:((l.length:Int) != (m.length:Int)) = !((l.length:Int)==(m.length:Int)):=rfl
 rcases Bool.eq_false_or_eq_true ((l.length:Int)==(m.length:Int))with b1 | b1
 case inr=>
  rw [b1]at b0
  simp only [b1,Bool.false_eq_true,if_false]at h
  subst h
  refine aD.go wo rfl fun B Q hB hQ=> ?_
  have⟨hP,hY,hZ,gA⟩:=bw
  repeat' (first
 | simp only [go_sem,hP,hY,hZ,gA,b0,Bool.not_false]
 | (with_reducible refine aF hQ ?_;simp only [az,aB,Option.some.injEq,exists_eq_left',go_sem,hP,hY,hZ,gA];repeat' (first | exact Ok.out | with_reducible refine aG ?_ ?_ | (simp;done))))
 rw [b1]at b0
 simp only [b1,if_true]at h
 have UX:l.length=m.length:=by have:=eq_of_beq b1;omega
 refine aD.go wo rfl fun B Q hB hQ=> ?_
 have⟨hP,hY,hZ,gA⟩:=bw
 repeat' (first
 | simp only [go_sem,hP,hY,hZ,gA,b0,Bool.not_true]
 | (with_reducible refine aF hQ ?_;simp only [az,aB,Option.some.injEq,exists_eq_left',go_sem,hP,hY,hZ,gA];repeat' (first | exact Ok.out | with_reducible refine aG ?_ ?_ | (simp;done))))
 refine cM 0 0 (bj.ind (ι:=List Pm×List Ar×Nat) (fun i=>l.drop i.2.2=i.1∧m.drop i.2.2=i.2.1∧uZ i.1 i.2.1=q) (fun i=>i.1.length)
  (fun i=> [(1, .slice .shared 6 (m.map dR)),(12, .slice .shared 2 (l.map fE)),(13, .int .i64 (l.length:Int)),(14, .int .i64 (i.2.2:Int))]) (fun i=>⟨[],[]⟩) ?_ (l,m,0) ⟨rfl,rfl,h⟩)
 rintro⟨r1,r2,k⟩ ⟨h1,h2,h⟩ IH
 dsimp only at h1 h2 h
 cases r1 with
 | nil=>
  have hP:=drop_nil h1
  simp only [uZ]at h
  subst h
  repeat' (first
 | simp only [go_sem,hP,hY,hZ,gA]
 | (with_reducible refine aF hQ ?_;simp only [az,aB,Option.some.injEq,exists_eq_left',go_sem,hP,hY,hZ,gA];repeat' (first | exact Ok.out | with_reducible refine aG ?_ ?_ | (simp;done))))
 | cons a r1=>
  obtain⟨hY,g2,hP,g4⟩:=drop_cons h1
  cases r2 with
  | nil=>have:=List.drop_eq_nil_iff.1 h2;omega
  | cons b r2=>
   obtain⟨UY,b2,L2,_⟩:=drop_cons h2
   have cz:k<4611686018427387904:=by omega
   simp only [uZ]at h
   have w1:(true==true)=true:=rfl
   have w2:(false==false)=true:=rfl
   have w3:(true==false)=false:=rfl
   have w4:(false==true)=false:=rfl
   have v1:(true != true)=false:=rfl
   have v2:(false != false)=false:=rfl
   have v3:(true != false)=true:=rfl
   have v4:(false != true)=true:=rfl
   rcases Bool.eq_false_or_eq_true a.ref with ea | ea
   ·rcases Bool.eq_false_or_eq_true b.ref with eb | eb
    ·simp only [ea,eb,w1,w2,if_true]at h
     repeat' (first
 | simp only [go_sem,hP,hY,hZ,gA,UY,L2,ea,eb,w1,w2,v1,v2]
 | (with_reducible refine aF hQ ?_;simp only [az,aB,Option.some.injEq,exists_eq_left',go_sem,hP,hY,hZ,gA];repeat' (first | exact Ok.out | with_reducible refine aG ?_ ?_ | (simp;done))))
     refine eo 0 0 ?_ ?_ (IH (r1,r2,k+1) ⟨g2,b2,h⟩ (Nat.lt_succ_self _))
     ·(simp only [go_sem,hP,hY,hZ,gA,aN cz];try exact bQ)
     ·(simp only [go_sem,hP,hY,hZ,gA,aN cz];try exact bQ)
    ·simp only [ea,eb,w3,w4,Bool.false_eq_true,if_false]at h
     subst h
     repeat' (first
 | simp only [go_sem,hP,hY,hZ,gA,UY,L2,ea,eb,w3,w4,v3,v4]
 | (with_reducible refine aF hQ ?_;simp only [az,aB,Option.some.injEq,exists_eq_left',go_sem,hP,hY,hZ,gA];repeat' (first | exact Ok.out | with_reducible refine aG ?_ ?_ | (simp;done))))
   ·rcases Bool.eq_false_or_eq_true b.ref with eb | eb
    ·simp only [ea,eb,w3,w4,Bool.false_eq_true,if_false]at h
     subst h
     repeat' (first
 | simp only [go_sem,hP,hY,hZ,gA,UY,L2,ea,eb,w3,w4,v3,v4]
 | (with_reducible refine aF hQ ?_;simp only [az,aB,Option.some.injEq,exists_eq_left',go_sem,hP,hY,hZ,gA];repeat' (first | exact Ok.out | with_reducible refine aG ?_ ?_ | (simp;done))))
    ·simp only [ea,eb,w1,w2,if_true]at h
     repeat' (first
 | simp only [go_sem,hP,hY,hZ,gA,UY,L2,ea,eb,w1,w2,v1,v2]
 | (with_reducible refine aF hQ ?_;simp only [az,aB,Option.some.injEq,exists_eq_left',go_sem,hP,hY,hZ,gA];repeat' (first | exact Ok.out | with_reducible refine aG ?_ ?_ | (simp;done))))
     refine eo 0 0 ?_ ?_ (IH (r1,r2,k+1) ⟨g2,b2,h⟩ (Nat.lt_succ_self _))
     ·(simp only [go_sem,hP,hY,hZ,gA,aN cz];try exact bQ)
     ·(simp only [go_sem,hP,hY,hZ,gA,aN cz];try exact bQ)
end Go.Abs

/-! Ar2 -/

namespace Go.Abs
set_option maxRecDepth 8000
open Go.Proofs
theorem ZD {p:Pg} {v:Sm} (h:p.jX) (hv:v.oU) (s:St):aD Tryz.prog tw [.agg (cd p), .agg (bd v)] s (.bool (v.oj p)) s:=by
 refine aD.pure ?_ (by simp [D.bJ,D.ok,iR,nh]) rfl s
 obtain⟨tf,sy,x4⟩:=h.procs
 have xU:v.args.length<1000000000:=by have:=Ar.da v.args;have:=hv.2.2;omega
 generalize hR:v.oj p=R
 simp only [Sm.oj]at hR
 unfold S0
 have b0:(v.kind != 4) = !(v.kind==4):=rfl
 rcases Bool.eq_false_or_eq_true (v.kind==4)with b1 | b1
 case inr=>
  rw [b1]at b0
  simp only [b1,Bool.false_and]at hR
  subst hR
  refine aD.go wc rfl fun B Q hB hQ=> ?_
  have⟨hP,hY,hZ,gA⟩:=bw
  repeat' (first
 | simp only [go_sem,hP,hY,hZ,gA,b0,Bool.not_false]
 | (with_reducible refine aF hQ ?_;simp only [az,aB,Option.some.injEq,exists_eq_left',go_sem,hP,hY,hZ,gA];repeat' (first | exact Ok.out | with_reducible refine aG ?_ ?_ | (simp;done))))
 rw [b1]at b0
 simp only [b1,Bool.true_and,Pg.find]at hR
 refine aD.go wc rfl fun B Q hB hQ=> ?_
 have⟨hP,hY,hZ,gA⟩:=bw
 repeat' (first
 | simp only [go_sem,hP,hY,hZ,gA,b0,Bool.not_true]
 | (with_reducible refine aF hQ ?_;simp only [az,aB,Option.some.injEq,exists_eq_left',go_sem,hP,hY,hZ,gA];repeat' (first | exact Ok.out | with_reducible refine aG ?_ ?_ | (simp;done))))
 refine cM 2 0 (bj.ind (ι:=List Pc×Nat) (fun i=>p.procs.drop i.2=i.1∧(match iX v.proc i.1 with | none=>false | some q=>xn q.params v.args)=R) (fun i=>i.1.length)
  (fun i=> [(3, .ptr 1 0),(11, .slice .shared 5 (p.procs.map cA)),(12, .int .i64 (p.procs.length:Int)),(13, .int .i64 (i.2:Int))]) (fun i=>⟨[cd p,bd v],[]⟩) ?_ (p.procs,0) ⟨rfl,hR⟩)
 clear hR
 rintro⟨rest,k⟩ ⟨h1,hR⟩ IH
 dsimp only at h1 hR
 cases rest with
 | nil=>
  have hP:=drop_nil h1
  simp only [iX]at hR
  subst hR
  repeat' (first
 | simp only [go_sem,hP,hY,hZ,gA]
 | (with_reducible refine aF hQ ?_;simp only [az,aB,Option.some.injEq,exists_eq_left',go_sem,hP,hY,hZ,gA];repeat' (first | exact Ok.out | with_reducible refine aG ?_ ?_ | (simp;done))))
 | cons a rest=>
  obtain⟨hY,g2,hP,g4⟩:=drop_cons h1
  have cz:k<4611686018427387904:=by omega
  have Ef:=h.small (List.mem_of_getElem? hY)
  have US:=fun s=>ZC (l:=a.params) (m:=v.args) (by have:=Ef.par;omega) xU s
  simp only [iX]at hR
  rcases Bool.eq_false_or_eq_true (a.name==v.proc)with c1 | c1
  ·simp only [c1,if_true]at hR
   subst hR
   repeat' (first
 | simp only [go_sem,hP,hY,hZ,gA,c1]
 | (with_reducible refine CU (US _) ?_)
 | (with_reducible refine aF hQ ?_;simp only [az,aB,Option.some.injEq,exists_eq_left',go_sem,hP,hY,hZ,gA];repeat' (first | exact Ok.out | with_reducible refine aG ?_ ?_ | (simp;done))))
  ·simp only [c1,Bool.false_eq_true,if_false]at hR
   repeat' (first
 | simp only [go_sem,hP,hY,hZ,gA,c1]
 | (with_reducible refine aF hQ ?_;simp only [az,aB,Option.some.injEq,exists_eq_left',go_sem,hP,hY,hZ,gA];repeat' (first | exact Ok.out | with_reducible refine aG ?_ ?_ | (simp;done))))
   refine eo 2 0 ?_ ?_ (IH (rest,k+1) ⟨g2,hR⟩ (Nat.lt_succ_self _))
   ·(simp only [go_sem,hP,hY,hZ,gA,aN cz];try exact bQ)
   ·(simp only [go_sem,hP,hY,hZ,gA,aN cz];try exact bQ)
def AT (p:Pg):List Sm→Option Sm
 | []=>none
 | v::l=>if v.kind==4 && !(v.oj p)then some v else AT p l
def n7 (c:Int):Option Sm→Int×Int
 | some v=>(c,v.id)
 | none=>(0,0)
def Pg.arity (p:Pg):Int×Int:=if p.scope.1==0 then n7 6 (AT p p.pre)else(1,0)
theorem Pg.jX.pre {p:Pg} (h:p.jX) : ∀ v∈p.pre,v.oU:=fun v m=>by
 simp only [Pg.pre,List.mem_flatten,List.mem_map]at m
 obtain⟨l,⟨f,hf,rfl⟩,m⟩:=m
 exact h.said hf v m
theorem Ht {p:Pg} (h:p.jX) (s:St):aD Tryz.prog o3 [.agg (cd p)] s (.agg [.int .i64 p.arity.1, .int .i64 p.arity.2]) s:=by
 refine aD.pure ?_ (by simp [D.bJ,D.ok,iR]) rfl s
 obtain⟨tf,sy,x4⟩:=h.procs
 have sk:=fun s=>tV h s
 have dV:=fun s=>Cb (p:=p) (by omega) s
 have hL:=(pE p).1
 have hll:=pF p
 generalize hR:p.arity=R
 simp only [Pg.arity]at hR
 unfold S0
 have b0:(p.scope.1 != 0) = !(p.scope.1==0):=rfl
 rcases Bool.eq_false_or_eq_true (p.scope.1==0)with b1 | b1
 case inr=>
  rw [b1]at b0
  simp only [b1,Bool.false_eq_true,if_false]at hR
  subst hR
  refine aD.go uL rfl fun B Q hB hQ=> ?_
  have⟨hP,hY,hZ,gA⟩:=bw
  repeat' (first
 | simp only [go_sem,hP,hY,hZ,gA,b0,Bool.not_false]
 | (with_reducible refine CU (sk _) ?_)
 | (with_reducible refine aF hQ ?_;simp only [az,aB,Option.some.injEq,exists_eq_left',go_sem,hP,hY,hZ,gA];repeat' (first | exact Ok.out | with_reducible refine aG ?_ ?_ | (simp;done))))
 rw [b1]at b0
 simp only [b1,if_true, ← hL]at hR
 refine aD.go uL rfl fun B Q hB hQ=> ?_
 have⟨hP,hY,hZ,gA⟩:=bw
 repeat' (first
 | simp only [go_sem,hP,hY,hZ,gA,b0,Bool.not_true,qP]
 | (with_reducible refine CU (sk _) ?_)
 | (with_reducible refine CU (dV _) ?_)
 | (with_reducible refine aF hQ ?_;simp only [az,aB,Option.some.injEq,exists_eq_left',go_sem,hP,hY,hZ,gA];repeat' (first | exact Ok.out | with_reducible refine aG ?_ ?_ | (simp;done))))
 refine cM 2 0 (bj.ind (ι:=List Im×Nat) (fun i=>p.e7.L.drop i.2=i.1∧n7 6 (AT p (i.1.map Im.s))=R) (fun i=>i.1.length)
  (fun i=> [(1, .ptr 0 0),(2, .ptr 1 0),(14, .slice .shared 17 (p.e7.L.map eO)),(15, .int .i64 (p.e7.L.length:Int)),(16, .int .i64 (i.2:Int))]) (fun i=>⟨[cd p,[.int .i64 0, .int .i64 0]],[]⟩) ?_ (p.e7.L,0) ⟨rfl,hR⟩)
 clear hR
 rintro⟨rest,k⟩ ⟨h1,hR⟩ IH
 dsimp only at h1 hR
 cases rest with
 | nil=>
  have hP:=drop_nil h1
  simp only [List.map_nil,AT,n7]at hR
  subst hR
  repeat' (first
 | simp only [go_sem,hP,hY,hZ,gA]
 | (with_reducible refine aF hQ ?_;simp only [az,aB,Option.some.injEq,exists_eq_left',go_sem,hP,hY,hZ,gA];repeat' (first | exact Ok.out | with_reducible refine aG ?_ ?_ | (simp;done))))
 | cons a rest=>
  obtain⟨hY,g2,hP,g4⟩:=drop_cons h1
  have cz:k<4611686018427387904:=by omega
  have Eg:a.s∈p.pre:=by rw [← hL];exact List.mem_map_of_mem (List.mem_of_getElem? hY)
  have ZE:=fun s=>ZD h (h.pre _ Eg) s
  simp only [List.map_cons,AT]at hR
  rcases Bool.eq_false_or_eq_true (a.s.kind==4)with c1 | c1
  ·rcases Bool.eq_false_or_eq_true (a.s.oj p)with c2 | c2
   ·simp only [c1,c2,Bool.not_true,Bool.and_false,Bool.false_eq_true,if_false]at hR
    repeat' (first
 | simp only [go_sem,hP,hY,hZ,gA,c1,c2]
 | (with_reducible refine CU (ZE _) ?_)
 | (with_reducible refine aF hQ ?_;simp only [az,aB,Option.some.injEq,exists_eq_left',go_sem,hP,hY,hZ,gA];repeat' (first | exact Ok.out | with_reducible refine aG ?_ ?_ | (simp;done))))
    refine eo 2 0 ?_ ?_ (IH (rest,k+1) ⟨g2,hR⟩ (Nat.lt_succ_self _))
    ·(simp only [go_sem,hP,hY,hZ,gA,aN cz];try exact bQ)
    ·(simp only [go_sem,hP,hY,hZ,gA,aN cz];try exact bQ)
   ·simp only [c1,c2,Bool.not_false,Bool.and_true,if_true,n7]at hR
    subst hR
    repeat' (first
 | simp only [go_sem,hP,hY,hZ,gA,c1,c2]
 | (with_reducible refine CU (ZE _) ?_)
 | (with_reducible refine aF hQ ?_;simp only [az,aB,Option.some.injEq,exists_eq_left',go_sem,hP,hY,hZ,gA];repeat' (first | exact Ok.out | with_reducible refine aG ?_ ?_ | (simp;done))))
  ·simp only [c1,Bool.false_and,Bool.false_eq_true,if_false]at hR
   repeat' (first
 | simp only [go_sem,hP,hY,hZ,gA,c1]
 | (with_reducible refine CU (ZE _) ?_)
 | (with_reducible refine aF hQ ?_;simp only [az,aB,Option.some.injEq,exists_eq_left',go_sem,hP,hY,hZ,gA];repeat' (first | exact Ok.out | with_reducible refine aG ?_ ?_ | (simp;done))))
   refine eo 2 0 ?_ ?_ (IH (rest,k+1) ⟨g2,hR⟩ (Nat.lt_succ_self _))
   ·(simp only [go_sem,hP,hY,hZ,gA,aN cz];try exact bQ)
   ·(simp only [go_sem,hP,hY,hZ,gA,aN cz];try exact bQ)
end Go.Abs

/-! Ar3 -/

namespace Go.Abs
set_option maxRecDepth 8000
open Go.Proofs
theorem Ei {p:Pg} (h:(p.scope.1==0)=true):p.may=true:=by
 unfold Pg.scope at h
 split at h
 ·assumption
 ·cases h
end Go.Abs

/-! Srt1 -/

namespace Go.Abs
set_option maxRecDepth 8000
open Go.Proofs
def mb (out:List ay):List ay→ay→Bool→ay×Bool
 | [],c,a=>(c,a)
 | s::l,c,a=>if !(dW out s) && (!a || bytesLess s c)then mb out l s true else mb out l c a
def OZ (l out:List ay):List ay:=if(mb out l [] false).2 then out++ [(mb out l [] false).1]else out
def om (l:List ay):Nat→List ay→List ay
 | 0,out=>out
 | n+1,out=>om l n (OZ l out)
def iJ (l:List ay):List ay:=om l l.length []
end Go.Abs

/-! Shelf -/

namespace Go.Proofs
open Go.Shelf
def Tryz.IU:Go.Shelf.Ren:=⟨fun | 190=>126 | 125=>169 | 258=>168 | 128=>202 | 129=>203 | 302=>193 | 303=>194 | 304=>195 | 305=>196 | 306=>197 | 307=>198 | 308=>199 | 309=>200 | 310=>201 | 333=>220 | 329=>221 | 330=>222 | 334=>223 | 335=>224 | 336=>225 | 344=>238 | n=>n,fun | 31=>22 | 9=>9 | 3=>3 | 46=>177 | 0=>0 | 51=>194 | 53=>196 | 4=>4 | 183=>187 | 182=>186 | 131=>131 | 5=>5 | 218=>209 | 222=>213 | 228=>221 | 229=>218 | n=>n,fun | n=>n⟩
theorem Tryz.Jx:Go.Proofs.Lays.n190 Tryz.prog Tryz.IU:= {
 mixed:=by kernel_rfl
 f125:=Tryz.func169.trans (congrArg some (by kernel_rfl))
 f128:=Tryz.func202.trans (congrArg some (by kernel_rfl))
 f129:=Tryz.func203.trans (congrArg some (by kernel_rfl))
 f190:=Tryz.func126.trans (congrArg some (by kernel_rfl))
 f258:=Tryz.func168.trans (congrArg some (by kernel_rfl))
 f302:=Tryz.func193.trans (congrArg some (by kernel_rfl))
 f303:=Tryz.func194.trans (congrArg some (by kernel_rfl))
 f304:=Tryz.func195.trans (congrArg some (by kernel_rfl))
 f305:=Tryz.func196.trans (congrArg some (by kernel_rfl))
 f306:=Tryz.func197.trans (congrArg some (by kernel_rfl))
 f307:=Tryz.func198.trans (congrArg some (by kernel_rfl))
 f308:=Tryz.func199.trans (congrArg some (by kernel_rfl))
 f309:=Tryz.func200.trans (congrArg some (by kernel_rfl))
 f310:=Tryz.func201.trans (congrArg some (by kernel_rfl))
 f329:=Tryz.func221.trans (congrArg some (by kernel_rfl))
 f330:=Tryz.func222.trans (congrArg some (by kernel_rfl))
 f333:=Tryz.func220.trans (congrArg some (by kernel_rfl))
 f334:=Tryz.func223.trans (congrArg some (by kernel_rfl))
 f335:=Tryz.func224.trans (congrArg some (by kernel_rfl))
 f336:=Tryz.func225.trans (congrArg some (by kernel_rfl))
 f344:=Tryz.func238.trans (congrArg some (by kernel_rfl))
 t0:=Tryz.underlying0
 a0:=Tryz.isAgg0
 z0:=Tryz.sizeOf0
 v0:=Tryz.zeroValue0
 t3:=Tryz.underlying3
 a3:=Tryz.isAgg3
 z3:=Tryz.sizeOf3
 v3:=Tryz.zeroValue3
 t4:=Tryz.underlying4
 a4:=Tryz.isAgg4
 z4:=Tryz.sizeOf4
 v4:=Tryz.zeroValue4
 t5:=Tryz.underlying5
 a5:=Tryz.isAgg5
 z5:=Tryz.sizeOf5
 v5:=Tryz.zeroValue5
 t9:=Tryz.underlying9
 a9:=Tryz.isAgg9
 z9:=Tryz.sizeOf9
 v9:=Tryz.zeroValue9
 t31:=Tryz.underlying22
 a31:=Tryz.isAgg22
 z31:=Tryz.sizeOf22
 v31:=Tryz.zeroValue22
 t46:=Tryz.underlying177
 a46:=Tryz.isAgg177
 z46:=Tryz.sizeOf177
 v46:=Tryz.zeroValue177
 t51:=Tryz.underlying194
 a51:=Tryz.isAgg194
 z51:=Tryz.sizeOf194
 v51:=Tryz.zeroValue194
 t53:=Tryz.underlying196
 a53:=Tryz.isAgg196
 z53:=Tryz.sizeOf196
 v53:=Tryz.zeroValue196
 t131:=Tryz.underlying131
 a131:=Tryz.isAgg131
 z131:=Tryz.sizeOf131
 v131:=Tryz.zeroValue131
 t182:=Tryz.underlying186
 a182:=Tryz.isAgg186
 z182:=Tryz.sizeOf186
 v182:=Tryz.zeroValue186
 t183:=Tryz.underlying187
 a183:=Tryz.isAgg187
 z183:=Tryz.sizeOf187
 v183:=Tryz.zeroValue187
 t218:=Tryz.underlying209
 a218:=Tryz.isAgg209
 z218:=Tryz.sizeOf209
 v218:=Tryz.zeroValue209
 t222:=Tryz.underlying213
 a222:=Tryz.isAgg213
 z222:=Tryz.sizeOf213
 v222:=Tryz.zeroValue213
 t228:=Tryz.underlying221
 a228:=Tryz.isAgg221
 z228:=Tryz.sizeOf221
 v228:=Tryz.zeroValue221
 t229:=Tryz.underlying218
 a229:=Tryz.isAgg218
 z229:=Tryz.sizeOf218
 v229:=Tryz.zeroValue218}
open Go.Sort Go.RowKit in
theorem Tryz.slices_Sort_string (zo off cap:Nat) (ss:List (List UInt8)) (w:World) (hH:Holds encStr w zo off ss.toArray) (alo:zo<w.heap.size) (ew:ss.length<4611686018427387904) :
 Calls Tryz.prog 126 #[.slice (some ⟨zo,off,none⟩) ss.length cap] w fun e w'=>
  e = .returned (.tuple #[])∧∃ n os,w'=grow (putRow encStr (Sort.ahead w n) zo off (ss.mergeSort fun x y=>decide (x≤y)).toArray) os:=Any.slices_Sort_string Tryz.Jx zo off cap ss w hH alo ew
def Tryz.IV:Go.Shelf.Ren:=⟨fun | 194=>127 | n=>n,fun | 31=>22 | 9=>9 | 3=>3 | 4=>4 | 0=>0 | n=>n,fun | n=>n⟩
theorem Tryz.Jy:Go.Proofs.Lays.n194 Tryz.prog Tryz.IV:= {
 mixed:=by kernel_rfl
 f194:=Tryz.func127.trans (congrArg some (by kernel_rfl))
 t0:=Tryz.underlying0
 a0:=Tryz.isAgg0
 z0:=Tryz.sizeOf0
 v0:=Tryz.zeroValue0
 t3:=Tryz.underlying3
 a3:=Tryz.isAgg3
 z3:=Tryz.sizeOf3
 v3:=Tryz.zeroValue3
 t4:=Tryz.underlying4
 a4:=Tryz.isAgg4
 z4:=Tryz.sizeOf4
 v4:=Tryz.zeroValue4
 t9:=Tryz.underlying9
 a9:=Tryz.isAgg9
 z9:=Tryz.sizeOf9
 v9:=Tryz.zeroValue9
 t31:=Tryz.underlying22
 a31:=Tryz.isAgg22
 z31:=Tryz.sizeOf22
 v31:=Tryz.zeroValue22}
open Go.RowKit Go.Lib Go.Sort in
theorem Tryz.slices_Compact_string (zo off cap:Nat) (zs:List (List UInt8)) (w:World) (hH:Holds encStr w zo off zs.toArray) (ew:zs.length≤9223372036854775807) (rR:zs.length≤cap) :
 Calls Tryz.prog 127 #[.slice (some ⟨zo,off,none⟩) zs.length cap] w fun e w'=>e = .returned (.slice (some ⟨zo,off,none⟩) (Lib.compact zs).length cap)∧∃ q,w'=putRow encStr (Sort.ahead w q) zo off (Lib.compact zs++List.replicate (zs.length - (Lib.compact zs).length) []).toArray:=Any.slices_Compact_string Tryz.Jy zo off cap zs w hH ew rR
open Go.RowKit Go.Lib Go.Sort in
theorem Tryz.slices_Compact_string_empty (a:Option Addr) (cap:Nat) (w:World) :
 Calls Tryz.prog 127 #[.slice a 0 cap] w fun e w'=>e = .returned (.slice a 0 cap)∧w'=w:=Any.slices_Compact_string_empty Tryz.Jy a cap w
open Go.RowKit Go.Sort in
theorem Tryz.slices_Sort_string_none (p:Option Addr) (cap:Nat) (w:World) :
 Calls Tryz.prog 126 #[.slice p 0 cap] w fun e w'=>e = .returned (.tuple #[])∧w'=w:=Any.slices_Sort_string_none Tryz.Jx p cap w
end Go.Proofs

/-! SortR -/

namespace Go.Abs
open Go.Proofs
section
variable {P:Program} {B:fj} {nt:Nat}
theorem Wt {x:Operand} {t:Nat} (h:cX x=some (.s t)):x = .tmp t:=by
 unfold cX at h
 split at h
 ·cases h;rfl
 ·obtain⟨d,_,h⟩:=map_some h;cases h
 ·cases h
 ·cases h
theorem L4 {ops:Array Oper} {o:Oper} {g g':Option (Nat×Bool)} {dst:Option Nat} {f:Nat} {xs:List X} (h:qT P ops o g=some (.call dst g' f xs)) :
 g'=g∧∃ args mO,o.op = .call ⟨.value (.func f),args,mO⟩∧enters P f=true∧vU args.toList=some xs:=by
 unfold qT at h
 split at h
 ·rename_i f' args mO lE
  split at h
  ·rename_i he
   obtain⟨xs',h1,h2⟩:=map_some h
   cases h2
   exact⟨rfl,args,mO,lE,he,h1⟩
  ·cases h
 ·obtain⟨_,_,h⟩:=map_some h;cases h
 ·split at h
  ·cases h
  ·split at h <;> cases h
theorem O0 {ops:Array Oper} {o:Oper} {tmps:Array Value} (hg:s8 ops o.guard=some none):Region.wanted o (yielded ops tmps)=true:=by
 have:o.guard=none:=by
  cases DN:o.guard with
  | none=>rfl
  | some p=>
   obtain⟨j,b⟩:=p
   rw [DN]at hg
   unfold s8 at hg
   simp only at hg
   split at hg <;> cases hg
 simp [Region.wanted,this]
theorem Sem.ZG {a k b f:Nat} {is:List AI} {Q:Exit→Tm→St→Prop} {tm:Tm} {s:St}
 (ada : ∀ act w,Holds B nt (tm.put (some a) (tm.get k)) s act w→Calls P f #[act.tmps.getD a Go.undef] w fun e w'=>∃ v,e = .returned v∧∃ bH s',Holds B nt bH s' (act.put (some b) v) w'∧ib P is (Q .normal) bH s') :
 Sem P B nt (.run (.op (some a) none (.mv (.s k)):: .call (some b) none f [.s a]::is)) Q tm s:=by
 intro c hc act w hh
 obtain⟨id,ops,rfl,hi⟩:=kC hc
 refine wp_region ?_
 have key : ∀ (l:List Nat) (ol:List Oper),l.map (ops[·]?)=ol.map some→pO P nt ops ol=some (.op (some a) none (.mv (.s k)):: .call (some b) none f [.s a]::is)→wpOps P ops (oC B nt Q) l act w:=by
  intro l ol hl vu
  match ol,l,hl with
  | [],_,_=>simp [pO]at vu
  | o0::ol,[],hl=>simp at hl
  | o0::ol,j0::l,hl=>
   simp only [List.map_cons,List.cons.injEq]at hl
   obtain⟨hj0,hl⟩:=hl
   unfold pO at vu
   split at vu
   ·rename_i i0 is0 h1 h2
    cases vu
    match ol,l,hl,h2 with
    | [],_,_,h2=>simp [pO]at h2
    | o1::ol,[],hl,_=>simp at hl
    | o1::ol,j1::l,hl,h2=>
     simp only [List.map_cons,List.cons.injEq]at hl
     obtain⟨hj1,hl⟩:=hl
     unfold pO at h2
     split at h2
     ·rename_i i1 is1 h3 h4
      cases h2
      obtain⟨M,e,r,ht,hn,hd⟩:=hh
      have UZ:=rB h1
      have U0:=rB h3
      simp only [AI.dst]at UZ U0
      refine vt (K':=fun bH s'=>bH=tm.put (some a) (tm.get k)∧s'=s) hj0 h1 r (B.laid.ext e) ht (by simp only [ib,guarded,aS,X.ev,and_self]) (fun d v s1 w1 M1 hk e1 r1 hv=> ?_)
      obtain⟨ta,rfl⟩:=hk
      have hH:=Holds.put e ht hn hd (vY h1) e1 r1 hv
      simp only [AI.dst]at ta
      rw [← UZ]at hH ⊢
      rw [ta]at hH
      obtain⟨g,hg,_,hb⟩:=yH h3
      obtain⟨rfl,args,mO,lE,wZ,nq⟩:=L4 hb
      simp only [wpOps,hj1,O0 hg,if_true]
      left
      have RK:args.map (act.put (some a) v).eval = #[(act.put (some a) v).tmps.getD a Go.undef]:=by
       have:args.toList = [.tmp a]:=by
        match hA:args.toList with
        | []=>rw [hA]at nq;simp [vU]at nq
        | [x]=>
         rw [hA]at nq
         simp only [vU]at nq
         split at nq
         ·rename_i x' r' hx hr
          cases nq
          rw [Wt hx]
         ·cases nq
        | x::y::z=>
         rw [hA]at nq
         simp only [vU]at nq
         split at nq
         ·rename_i x' r' hx hr
          cases nq
          split at hr
          ·cases hr
          ·cases hr
         ·cases nq
       have:args = #[.tmp a]:=by rw [← Array.toArray_toList (xs:=args),this]
       rw [this]
       simp only [List.map_toArray,List.map_cons,List.map_nil]
       rfl
      have hex:(execOp (act.put (some a) v).eval o1).run P w1 = .ok (.enter f #[(act.put (some a) v).tmps.getD a Go.undef]) w1:=by
       obtain⟨dst,op,type,pos,after,guard⟩:=o1
       simp only at lE
       subst lE
       rw [← RK]
       exact vn (act.put (some a) v).eval dst f args mO type pos after guard rfl wZ w1
      unfold Oper.wp
      rw [hex,Oper.upon_enter]
      refine(ada _ _ hH).mono ?_
      rintro en w' ⟨v',rfl,bH,s',hH',hvc⟩
      rw [← U0]
      exact yA (Q:=Q) l ol _ hl h4 bH s' _ w' hvc hH'
     ·cases h2
   ·cases vu
 exact key _ _ (yB ops) hi
theorem Ej (hB:B.s = ⟨[],[]⟩) {tm:Tm} {s:St} {act:Act} {w:World} (h:Holds B nt tm s act w) {t:Nat} {l:List ay} (ht:s.aC[t]? = some (some l.length)) {k0:Nat} (Zt:tm.get k0 = .slice (.tok t) 1 (l.map encStr)) :
 (l = []∧∀ k,tm.get k = .slice (.tok t) 1 (l.map encStr)→(act.tmps.getD k Go.undef = .slice none 0 0∨∃ b q,act.tmps.getD k Go.undef = .slice (some ⟨b,q,none⟩) 0 0))∨
 ∃ (b cap:Nat) (vs:Array Value) (T:TypeId),(∀ k,tm.get k = .slice (.tok t) 1 (l.map encStr)→act.tmps.getD k Go.undef = .slice (some ⟨b,0,none⟩) l.length cap)∧l.length≤cap∧w.heap[b]? = some (.cells vs T (0,0))∧vs.size=cap∧B.w.heap.size≤b∧
  ∀ j (hj:j<l.length),vs[j]? = some (.string ⟨⟨l[j]⟩⟩):=by
 obtain⟨M,e,r,hr,_,_⟩:=h
 rcases r.tok t _ ht with ⟨h3,h4⟩ | ⟨b,cap,z,vs,T,h3,h4,h5,h6,h7⟩
 ·have hl:l = []:=List.eq_nil_of_length_eq_zero h4
  subst hl
  refine .inl ⟨rfl,fun k hk=> ?_⟩
  have hv:=hr k
  rw [hk]at hv
  generalize act.tmps.getD k Go.undef=v at hv
  cases hv with
  | jc _ _ cap hc ox=>subst hc;exact .inl rfl
  | slice _ _ _ b q cap hl hs h1 h2 ox=>
   rcases(ox.2 _ ht).2 rfl with ⟨_,h0,_⟩ | ⟨b',_,jT⟩
   ·subst h0;exact .inr ⟨b,q,rfl⟩
   ·rw [h3]at jT;cases jT
 ·right
  have each : ∀ k,tm.get k = .slice (.tok t) 1 (l.map encStr)→z=1∧act.tmps.getD k Go.undef = .slice (some ⟨b,0,none⟩) l.length cap∧l.length≤cap∧∀ j (hj:j<l.length),∃ u,M.G b j=some u∧RD M s (.str l[j]) u:=by
   intro k hk
   have hv:=hr k
   rw [hk]at hv
   generalize act.tmps.getD k Go.undef=v at hv
   generalize kJ:l.map encStr=rows at hv
   cases hv with
   | jc _ _ cap hc ox=>
    have hl:l = []:=by cases l <;> simp at kJ;rfl
    subst hl
    rcases(ox.2 _ ht).2 rfl with ⟨h0,_⟩ | ⟨b',h0,_⟩
    ·rw [h3]at h0;cases h0
    ·cases h0
   | slice _ _ _ b2 q atZ hl hs h1 h2 ox=>
    subst kJ
    rw [List.length_map]at hl ox
    rcases(ox.2 _ ht).2 rfl with ⟨h0,_⟩ | ⟨b',hb,jT⟩
    ·rw [h3]at h0;cases h0
    ·cases hb
     rw [h3]at jT
     cases jT
     refine⟨rfl,by rw [List.length_map],hl,fun j hj=> ?_⟩
     have e1:(l.map encStr)[j]? = some [.str l[j]]:=by rw [List.getElem?_map,List.getElem?_eq_getElem hj];rfl
     obtain⟨u,hu⟩:=h1 j _ 0 _ e1 rfl
     refine⟨u,by simpa using hu,h2 j _ 0 _ u e1 rfl hu⟩
  obtain⟨rfl,_,rR,k8⟩:=each k0 Zt
  have dV:B.w.heap.size≤b:=by
   rcases e.pM t b cap 1 ⟨_,ht⟩ h3 with ⟨⟨n,hn⟩,_⟩ | h
   ·rw [hB]at hn;simp at hn
   ·exact h
  refine⟨b,cap,vs,T,fun k hk=>(each k hk).2.1,rR,h4,by simpa [zs]using h5,dV,fun j hj=> ?_⟩
  obtain⟨u,hu,oJ⟩:=k8 j hj
  have:=(r.comm _ _ _ hu).1
  rw [kj h4,oJ.ku]at this
  exact this
theorem Hu (hB:B.s = ⟨[],[]⟩) {tm:Tm} {s:St} {act si:Act} {w w':World} (h:Holds B nt tm s act w) {b cap:Nat} {vs:Array Value} {T:TypeId} (ew:vs.size=cap) (uO:B.w.heap.size≤b)
 (k6 : ∀ q,q<B.w.heap.size→w'.heap[q]? = w.heap[q]?) (ep:w'.heap[b]? = some (.cells vs T (0,0))) (eB:w.heap.size≤w'.heap.size) (DU:w'.os=w.os) (BI:w'.tape=w.tape) (Qe:w'.output=w.output)
 {l:List ay} (hl:l.length≤cap) (k8 : ∀ j (hj:j<l.length),vs[j]? = some (.string ⟨⟨l[j]⟩⟩)) {k:Nat} (L5:si.tmps.getD k Go.undef = .slice (some ⟨b,0,none⟩) l.length cap) (hn:si.tmps.size=nt) (hd:si.defers = []) :
 Holds B nt [(k, .slice (.tok 0) 1 (l.map encStr))] ⟨[],[some l.length]⟩ si w':=by
 obtain⟨M,e,r,hr,_,_⟩:=h
 let M':Map:=⟨fun q o=>if q=b then(if o<l.length then(l[o]?).map fun x=>Value.string ⟨⟨x⟩⟩else none)else B.M.G q o,B.M.loc,fun _=>some (b,cap,1)⟩
 have hGb : ∀ q o v,B.M.G q o=some v→q<B.w.heap.size∧w'.cell? ⟨q,o,none⟩=some v∧v.oneCell'=true:=by
  intro q o v hq
  obtain⟨h1,h2⟩:=r.comm q o v (e.le.G q o v hq)
  have hP:=B.old q o v hq
  refine⟨hP, ?_,h2⟩
  rw [← h1]
  simp [World.cell?,k6 q hP]
 have uv : ∀ j (hj:j<l.length),w'.cell? ⟨b,j,none⟩=some (.string ⟨⟨l[j]⟩⟩):=fun j hj=>by rw [kj ep];exact k8 j hj
 have hY : ∀ (j:Nat) v,(if j<l.length then(l[j]?).map fun x=>Value.string ⟨⟨x⟩⟩else none)=some v→∃ hj:j<l.length,v = .string ⟨⟨l[j]⟩⟩:=by
  intro j v hv
  split at hv
  ·rename_i hj
   rw [List.getElem?_eq_getElem hj]at hv
   exact⟨hj,by simpa using hv.symm⟩
  ·cases hv
 refine⟨M',⟨⟨fun q o v hq=> ?_,by simp [hB],fun o ho=>rfl,by rw [hB];exact Nat.zero_le _,fun t n' ht _=>by rw [hB]at ht;exact absurd ht (Nat.not_lt_zero _)⟩,fun q hq _ _=> ?_,fun o _ h2=>absurd h2 (Nat.not_lt_zero _),fun t q c z _ hb=> ?_,fun q o fp=> ?_,Nat.le_trans e.size eB,DU.trans e.os,BI.trans e.tape,Qe.trans e.output⟩,
  ⟨fun q o v hq=> ?_,fun o ds ho=>by simp at ho,fun o ho=>absurd ho (Nat.not_lt_zero _),fun o o' ho=>absurd ho (Nat.not_lt_zero _),fun t n ht=> ?_,fun t q c z o _ _ ho=>absurd ho (Nat.not_lt_zero _),fun t t' q c z c' z' OA tc _ _=> ?_⟩,fun u=> ?_,hn,hd⟩
 ·show(if q=b then _ else B.M.G q o)=some v
  rw [if_neg (by have:=(hGb q o v hq).1;omega)]
  exact hq
 ·rw [k6 q hq]
  exact e.kept q hq (fun o ho=>by rw [hB]at ho;exact absurd ho (Nat.not_lt_zero _)) (fun t c z tc=>by rw [hB]at tc;obtain⟨n,xY⟩:=tc;simp at xY)
 ·cases hb;exact .inr uO
 ·by_cases hq:q=b
  ·subst hq;exact .inl uO
  ·exact absurd (show(if q=b then _ else B.M.G q o)=B.M.G q o from if_neg hq) fp
 ·have qz:(if q=b then(if o<l.length then(l[o]?).map fun x=>Value.string ⟨⟨x⟩⟩else none)else B.M.G q o)=some v:=hq
  by_cases ZH:q=b
  ·rw [if_pos ZH]at qz
   obtain⟨hj,rfl⟩:=hY o v qz
   rw [ZH]
   exact⟨uv o hj,rfl⟩
  ·rw [if_neg ZH]at qz
   exact(hGb q o v qz).2
 ·match t with
  | 0=>
   simp at ht
   subst ht
   refine .inr ⟨b,cap,1,vs,T,rfl,ep,by simp [zs,ew],hl,fun off ho=> ?_,fun h=>by cases h⟩
   show(if b=b then(if off<l.length then _ else none)else B.M.G b off)=none
   rw [if_pos rfl,if_neg (by simp [zs]at ho;omega)]
  | t+1=>simp at ht
 ·obtain⟨n1,h1⟩:=OA
  obtain⟨n2,h2⟩:=tc
  have a1:=(List.getElem?_eq_some_iff.1 h1).1
  have a2:=(List.getElem?_eq_some_iff.1 h2).1
  simp at a1 a2
  omega
 ·simp only [Tm.get]
  split
  ·rename_i ZI
   subst ZI
   rw [L5]
   have:=RD.slice (M:=M') (s:=⟨[],[some l.length]⟩) (.tok 0) 1 (l.map encStr) b 0 cap (by simpa using hl) (fun row hr=>by
    obtain⟨x,_,rfl⟩:=List.mem_map.1 hr;rfl) (fun i row j d e1 e2=> ?_) (fun i row j d u e1 e2 eu=> ?_) ⟨by simp,fun n xY=>by
    simp at xY
    subst xY
    exact⟨by simp,fun _=> .inr ⟨b,rfl,rfl⟩⟩⟩
   ·simpa using this
   ·rw [List.getElem?_map]at e1
    cases xR:l[i]? with
    | none=>rw [xR]at e1;cases e1
    | some x=>
     have pB:=(List.getElem?_eq_some_iff.1 xR).1
     rw [xR]at e1
     cases e1
     have hj:j=0:=by cases j with | zero=>rfl | succ j=>simp [encStr]at e2
     subst hj
     refine⟨.string ⟨⟨x⟩⟩, ?_⟩
     show(if b=b then(if 0+(i*1+0)<l.length then _ else none)else _)=_
     rw [if_pos rfl,if_pos (by omega)]
     simp [xR]
   ·rw [List.getElem?_map]at e1
    cases xR:l[i]? with
    | none=>rw [xR]at e1;cases e1
    | some x=>
     have pB:=(List.getElem?_eq_some_iff.1 xR).1
     rw [xR]at e1
     cases e1
     have hj:j=0:=by cases j with | zero=>rfl | succ j=>simp [encStr]at e2
     subst hj
     have Jm:(if b=b then(if 0+(i*1+0)<l.length then(l[0+(i*1+0)]?).map fun x=>Value.string ⟨⟨x⟩⟩else none)else B.M.G b (0+(i*1+0)))=some u:=eu
     rw [if_pos rfl,if_pos (by omega)]at Jm
     simp [xR]at Jm
     subst Jm
     simp [encStr]at e2
     subst e2
     exact .str x
  ·exact .junk _
theorem Jz (hB:B.s = ⟨[],[]⟩) {tm:Tm} {s:St} {act si:Act} {w:World} (h:Holds B nt tm s act w) {k:Nat} (L5:si.tmps.getD k Go.undef = .slice none 0 0∨∃ b q,si.tmps.getD k Go.undef = .slice (some ⟨b,q,none⟩) 0 0) (hn:si.tmps.size=nt) (hd:si.defers = []) :
 Holds B nt [(k, .slice (.tok 0) 1 (([] : List ay).map encStr))] ⟨[],[some 0]⟩ si w:=by
 obtain⟨M,e,r,hr,_,_⟩:=h
 let M':Map:=⟨B.M.G,B.M.loc,fun _=>none⟩
 refine⟨M',⟨⟨fun q o v hq=>hq,by simp [hB],fun o ho=>rfl,by rw [hB];exact Nat.zero_le _,fun t n' ht _=>by rw [hB]at ht;exact absurd ht (Nat.not_lt_zero _)⟩,fun q hq _ _=> ?_,fun o _ h2=>absurd h2 (Nat.not_lt_zero _),fun t q c z _ hb=>(by cases hb),fun q o fp=>absurd rfl fp,e.size,e.os,e.tape,e.output⟩,
  ⟨fun q o v hq=>r.comm q o v (e.le.G q o v hq),fun o ds ho=>by simp at ho,fun o ho=>absurd ho (Nat.not_lt_zero _),fun o o' ho=>absurd ho (Nat.not_lt_zero _),fun t n ht=> ?_,fun t q c z o _ _ ho=>absurd ho (Nat.not_lt_zero _),fun t t' q c z c' z' OA tc h1 _=>by cases h1⟩,fun u=> ?_,hn,hd⟩
 ·exact e.kept q hq (fun o ho=>by rw [hB]at ho;exact absurd ho (Nat.not_lt_zero _)) (fun t c z tc=>by rw [hB]at tc;obtain⟨n,xY⟩:=tc;simp at xY)
 ·match t with
  | 0=>simp at ht;subst ht;exact .inl ⟨rfl,rfl⟩
  | t+1=>simp at ht
 ·simp only [Tm.get]
  split
  ·rename_i ZI
   subst ZI
   have ox : ∀ base,gW M' ⟨[],[some 0]⟩ (.tok 0) 1 0 base 0:=fun base=>⟨by simp,fun n xY=>by
    simp at xY
    subst xY
    exact⟨Nat.le_refl _,fun _=> .inl ⟨rfl,rfl,fun h=>by cases h⟩⟩⟩
   rcases L5 with h | ⟨b,q,h⟩
   ·rw [h];exact .jc _ _ 0 rfl (ox none)
   ·rw [h];exact .slice (.tok 0) 1 [] b q 0 (Nat.le_refl _) (by simp) (by simp) (by simp) (ox _)
  ·exact .junk _
theorem Hv {α:Type} [Inhabited α] (enc:α→Value) (d:Array α) (c:Array Value) (j:Nat):(Sort.putCells enc 0 d c)[j]? = if j<d.size then(c[j]?).map fun _=>enc d[j]! else c[j]? :=by
 simp only [Sort.putCells,Array.getElem?_mapIdx]
 cases h:c[j]? with
 | none=>simp
 | some x=>by_cases hj:j<d.size <;> simp [hj]
theorem Ek {w:World} {b n cap:Nat} {vs:Array Value} {T:TypeId} (ep:w.heap[b]? = some (.cells vs T (0,0))) (ew:vs.size=cap) (l:List ay) (hl:l.length≤cap) (os:Array Obj) :
 (∀ q,q≠b→q<w.heap.size→(Sort.grow (Sort.putRow Go.Proofs.encStr (Sort.ahead w n) b 0 l.toArray) os).heap[q]? = w.heap[q]?)∧
 (Sort.grow (Sort.putRow Go.Proofs.encStr (Sort.ahead w n) b 0 l.toArray) os).heap[b]? = some (.cells (Sort.putCells Go.Proofs.encStr 0 l.toArray vs) T (0,0))∧w.heap.size≤(Sort.grow (Sort.putRow Go.Proofs.encStr (Sort.ahead w n) b 0 l.toArray) os).heap.size∧
 (Sort.putCells Go.Proofs.encStr 0 l.toArray vs).size=cap∧∀ j (hj:j<l.length),(Sort.putCells Go.Proofs.encStr 0 l.toArray vs)[j]? = some (.string ⟨⟨l[j]⟩⟩):=by
 have hb:b<w.heap.size:=(Array.getElem?_eq_some_iff.1 ep).1
 refine⟨fun q hq hP=> ?_, ?_, ?_, ?_,fun j hj=> ?_⟩
 ·simp only [Sort.grow,Sort.putRow,Sort.mapBlock,Sort.ahead]
  rw [Array.getElem?_append_left (by simpa using hP),Array.getElem?_modify]
  simp [Ne.symm hq]
 ·simp only [Sort.grow,Sort.putRow,Sort.mapBlock,Sort.ahead]
  rw [Array.getElem?_append_left (by simpa using hb),Array.getElem?_modify]
  simp [ep,Sort.onCells]
 ·simp [Sort.grow,Sort.putRow,Sort.mapBlock,Sort.ahead]
 ·simp [Sort.putCells,ew]
 ·rw [Hv]
  have h1:j<l.toArray.size:=by simpa using hj
  have h2:vs[j]? = some vs[j]:=Array.getElem?_eq_getElem (by omega)
  rw [if_pos h1,h2]
  simp [hj]
def lk (l:List ay):List ay:=l.mergeSort fun x y=>decide (x≤y)
theorem Hw {act:Act} {b:Nat} {v:Value} {u:Nat} (h:u≠b):(act.put (some b) v).tmps.getD u Go.undef=act.tmps.getD u Go.undef:=by
 simp only [Act.put,Array.getD_eq_getD_getElem?]
 rw [Array.getElem?_setIfInBounds_ne (fun e=>h e.symm)]
theorem El {act:Act} {b:Nat} {v:Value} (h:b<act.tmps.size):(act.put (some b) v).tmps.getD b Go.undef=v:=by
 simp only [Act.put,Array.getD_eq_getD_getElem?]
 simp [h]
theorem Sem.sort (hB:B.s = ⟨[],[]⟩) {a k b t:Nat} {l:List ay} {is:List AI} {Q:Exit→Tm→St→Prop} {tm:Tm} {s:St} (hak:a≠k) (hbk:b≠k) (UR:a≠b)
 (hk:tm.get k = .slice (.tok t) 1 (l.map encStr)) (ht:s.aC[t]? = some (some l.length)) (hl:l.length<4611686018427387904)
 (h:ib Tryz.prog is (Q .normal) [(k, .slice (.tok 0) 1 ((lk l).map encStr))] ⟨[],[some l.length]⟩) :
 Sem Tryz.prog B nt (.run (.op (some a) none (.mv (.s k)):: .call (some b) none iD [.s a]::is)) Q tm s:=by
 refine Sem.ZG fun act w hh=> ?_
 have xM:(tm.put (some a) (tm.get k)).get k = .slice (.tok t) 1 (l.map encStr):=by rw [Tm.kx,if_neg (by simpa using hak)];exact hk
 have Hx:(tm.put (some a) (tm.get k)).get a = .slice (.tok t) 1 (l.map encStr):=by rw [Tm.kx,if_pos rfl];exact hk
 have Cp:(lk l).length=l.length:=List.length_mergeSort l
 have hn:(act.put (some b) (.tuple #[])).tmps.size=nt:=by obtain⟨_,_,_,_,h1,_⟩:=hh;simpa [Act.put]using h1
 have hd:(act.put (some b) (.tuple #[])).defers = []:=by obtain⟨_,_,_,_,_,h1⟩:=hh;simpa [Act.put]using h1
 have ew:(act.tmps).size=nt:=by obtain⟨_,_,_,_,h1,_⟩:=hh;exact h1
 rcases Ej hB hh ht Hx with ⟨rfl,hv⟩ | ⟨b',cap,vs,T,hv,rR,ep,rr,uO,k8⟩
 ·rw [show lk [] = [] by simp [lk]]at h
  have call : ∀ p,act.tmps.getD a Go.undef = .slice p 0 0→Calls Tryz.prog iD #[act.tmps.getD a Go.undef] w fun e w'=>∃ v,e = .returned v∧∃ bH s',Holds B nt bH s' (act.put (some b) v) w'∧ib Tryz.prog is (Q .normal) bH s':=by
   intro p hp
   rw [hp]
   refine(Tryz.slices_Sort_string_none p 0 w).mono ?_
   rintro e w' ⟨rfl,rfl⟩
   refine⟨_,rfl,_,_,Jz hB hh (k:=k) ?_ hn hd,h⟩
   rw [Hw (Ne.symm hbk)]
   exact hv k xM
  rcases hv a Hx with h1 | ⟨b',q,h1⟩
  ·exact call _ h1
  ·exact call _ h1
 ·rw [hv a Hx]
  have hP:b'<w.heap.size:=(Array.getElem?_eq_some_iff.1 ep).1
  refine(Tryz.slices_Sort_string b' 0 cap l w (fun j hj=> ?_) hP hl).mono ?_
  ·have O1:j<l.length:=by simpa using hj
   refine⟨?_,by simp [World.frozen?,ep]⟩
   rw [Nat.zero_add,kj ep,k8 j O1]
   simp [O1]
  ·rintro e w' ⟨rfl,n,os,rfl⟩
   obtain⟨p1,p2,p3,p4,p5⟩:=Ek (n:=n) ep rr (lk l) (by omega) os
   have hH:=Hu hB hh (si:=act.put (some b) (.tuple #[])) (l:=lk l) (k:=k) p4 uO (fun q hq=>p1 q (by omega) (by obtain⟨M,e,_⟩:=hh;exact Nat.lt_of_lt_of_le hq e.size)) p2 p3 rfl rfl rfl (by omega) p5 (by rw [Hw (Ne.symm hbk),hv k xM,Cp]) hn hd
   rw [Cp]at hH
   exact⟨_,rfl,_,_,hH,h⟩
theorem IW (l:List ay):(Lib.compact l).length≤l.length:=by
 unfold Lib.compact Lib.compactUpTo
 rw [List.length_map]
 exact Nat.le_trans (List.length_filter_le _ _) (by simp)
theorem Sem.compact (hB:B.s = ⟨[],[]⟩) {a k b t:Nat} {l:List ay} {is:List AI} {Q:Exit→Tm→St→Prop} {tm:Tm} {s:St} (hbt:b<nt)
 (hk:tm.get k = .slice (.tok t) 1 (l.map encStr)) (ht:s.aC[t]? = some (some l.length)) (hl:l.length<4611686018427387904)
 (h:ib Tryz.prog is (Q .normal) [(b, .slice (.tok 0) 1 ((Lib.compact l).map encStr))] ⟨[],[some (Lib.compact l).length]⟩) :
 Sem Tryz.prog B nt (.run (.op (some a) none (.mv (.s k)):: .call (some b) none iV [.s a]::is)) Q tm s:=by
 refine Sem.ZG fun act w hh=> ?_
 have Hx:(tm.put (some a) (tm.get k)).get a = .slice (.tok t) 1 (l.map encStr):=by rw [Tm.kx,if_pos rfl];exact hk
 have ew:(act.tmps).size=nt:=by obtain⟨_,_,_,_,h1,_⟩:=hh;exact h1
 have hn : ∀ v,(act.put (some b) v).tmps.size=nt:=fun v=>by simpa [Act.put]using ew
 have hd : ∀ v,(act.put (some b) v).defers = []:=by obtain⟨_,_,_,_,_,h1⟩:=hh;intro v;simpa [Act.put]using h1
 rcases Ej hB hh ht Hx with ⟨rfl,hv⟩ | ⟨b',cap,vs,T,hv,rR,ep,rr,uO,k8⟩
 ·rw [show Lib.compact ([] : List ay) = []from rfl]at h
  have call : ∀ p,act.tmps.getD a Go.undef = .slice p 0 0→(p=none∨∃ b q,p=some ⟨b,q,none⟩)→Calls Tryz.prog iV #[act.tmps.getD a Go.undef] w fun e w'=>∃ v,e = .returned v∧∃ bH s',Holds B nt bH s' (act.put (some b) v) w'∧ib Tryz.prog is (Q .normal) bH s':=by
   intro p hp hq
   rw [hp]
   refine(Tryz.slices_Compact_string_empty p 0 w).mono ?_
   rintro e w' ⟨rfl,rfl⟩
   refine⟨_,rfl,_,_,Jz hB hh (k:=b) ?_ (hn _) (hd _),h⟩
   rw [El (by omega)]
   rcases hq with rfl | ⟨x,y,rfl⟩
   ·exact .inl rfl
   ·exact .inr ⟨x,y,rfl⟩
  rcases hv a Hx with h1 | ⟨b',q,h1⟩
  ·exact call _ h1 (.inl rfl)
  ·exact call _ h1 (.inr ⟨b',q,rfl⟩)
 ·rw [hv a Hx]
  have xP:(Lib.compact l).length≤l.length:=IW l
  refine(Tryz.slices_Compact_string b' 0 cap l w (fun j hj=> ?_) (by omega) rR).mono ?_
  ·have O1:j<l.length:=by simpa using hj
   refine⟨?_,by simp [World.frozen?,ep]⟩
   rw [Nat.zero_add,kj ep,k8 j O1]
   simp [O1]
  ·rintro e w' ⟨rfl,q,rfl⟩
   obtain⟨p1,p2,p3,p4,p5⟩:=Ek (n:=q) ep rr (Lib.compact l++List.replicate (l.length - (Lib.compact l).length) []) (by simp;omega) #[]
   rw [Sort.grow_empty]at p1 p2 p3
   have hH:=Hu hB hh (si:=act.put (some b) (.slice (some ⟨b',0,none⟩) (Lib.compact l).length cap)) (l:=Lib.compact l) (k:=b) p4 uO (fun q hq=>p1 q (by omega) (by obtain⟨M,e,_⟩:=hh;exact Nat.lt_of_lt_of_le hq e.size)) p2 p3 rfl rfl rfl (by omega)
    (fun j hj=>by
     have:=p5 j (by simp;omega)
     rw [List.getElem_append_left hj]at this
     exact this) (El (by omega)) (hn _) (hd _)
   exact⟨_,rfl,_,_,hH,h⟩
end
end Go.Abs

/-! SrtP -/

namespace Go.Abs
theorem Cq {a b:UInt8} : a<b↔a.toNat<b.toNat:=UInt8.lt_iff_toNat_lt
theorem wI : ∀ a:ay,bytesLess a a=false
 | []=>rfl
 | x::a=>by
  show Go.Op.bytesLess (x::a) (x::a)=false
  have h:=wI a
  have h:Go.Op.bytesLess a a=false:=h
  simp [Go.Op.bytesLess,h]
theorem wJ : ∀ a b:ay,bytesLess a b=true∨a=b∨bytesLess b a=true
 | [],[]=> .inr (.inl rfl)
 | [],y::b=> .inl rfl
 | x::a,[]=> .inr (.inr rfl)
 | x::a,y::b=>by
  show Go.Op.bytesLess (x::a) (y::b)=true∨_∨Go.Op.bytesLess (y::b) (x::a)=true
  have h:Go.Op.bytesLess a b=true∨a=b∨Go.Op.bytesLess b a=true:=wJ a b
  simp only [Go.Op.bytesLess,Bool.or_eq_true,Bool.and_eq_true,decide_eq_true_eq,beq_iff_eq,List.cons.injEq]
  by_cases e:x=y
  ·subst e
   rcases h with h | h | h
   ·exact .inl (.inr ⟨rfl,h⟩)
   ·exact .inr (.inl ⟨rfl,h⟩)
   ·exact .inr (.inr (.inr ⟨rfl,h⟩))
  ·have:x.toNat≠y.toNat:=fun h=>e (UInt8.toNat_inj.1 h)
   rcases Nat.lt_or_gt_of_ne this with h | h
   ·exact .inl (.inl (Cq.2 h))
   ·exact .inr (.inr (.inl (Cq.2 h)))
theorem Cr : ∀ a b c:ay,bytesLess a b=true→bytesLess b c=true→bytesLess a c=true
 | a,b,[],h1,h2=>by cases b <;> cases h2
 | a,[],z::c,h1,h2=>by cases a <;> cases h1
 | [],y::b,z::c,h1,h2=>rfl
 | x::a,y::b,z::c,h1,h2=>by
  have h1:Go.Op.bytesLess (x::a) (y::b)=true:=h1
  have h2:Go.Op.bytesLess (y::b) (z::c)=true:=h2
  show Go.Op.bytesLess (x::a) (z::c)=true
  simp only [Go.Op.bytesLess,Bool.or_eq_true,Bool.and_eq_true,decide_eq_true_eq,beq_iff_eq]at h1 h2 ⊢
  rcases h1 with e1 | ⟨i1,e1⟩
  ·rcases h2 with e2 | ⟨i2,e2⟩
   ·exact .inl (Cq.2 (Nat.lt_trans (Cq.1 e1) (Cq.1 e2)))
   ·exact .inl (i2 ▸ e1)
  ·rcases h2 with e2 | ⟨i2,e2⟩
   ·exact .inl (i1 ▸ e2)
   ·exact .inr ⟨i1.trans i2,Cr a b c e1 e2⟩
def zp (l:List ay):Prop:=l.Pairwise fun a b=>bytesLess a b=true
theorem vM : ∀ {a b:List ay},zp a→zp b→(∀ x,x∈a↔x∈b)→a=b
 | [],[],_,_,_=>rfl
 | [],y::b,_,_,h=>absurd ((h y).2 List.mem_cons_self) (by simp)
 | x::a,[],_,_,h=>absurd ((h x).1 List.mem_cons_self) (by simp)
 | x::a,y::b,h1,h2,h=>by
  obtain⟨g1,g2⟩:=List.pairwise_cons.1 h1
  obtain⟨g3,g4⟩:=List.pairwise_cons.1 h2
  have e:x=y:=by
   rcases List.mem_cons.1 ((h x).1 List.mem_cons_self)with e | m
   ·exact e
   ·rcases List.mem_cons.1 ((h y).2 List.mem_cons_self)with e | m'
    ·exact e.symm
    ·have:=Cr _ _ _ (g3 x m) (g1 y m');rw [wI]at this;cases this
  subst e
  rw [vM g2 g4 fun z=> ?_]
  constructor
  ·intro m
   rcases List.mem_cons.1 ((h z).1 (List.mem_cons_of_mem _ m))with e | m'
   ·subst e;have:=g1 z m;rw [wI]at this;cases this
   ·exact m'
  ·intro m
   rcases List.mem_cons.1 ((h z).2 (List.mem_cons_of_mem _ m))with e | m'
   ·subst e;have:=g3 z m;rw [wI]at this;cases this
   ·exact m'
theorem sR (out:List ay) : ∀ (l:List ay) (c:ay) (a:Bool),
 let q:=mb out l c a
 (q.2=false↔a=false∧∀ x∈l,x∈out)∧(q.2=true→((a=true∧q.1=c)∨(q.1∈l∧q.1∉out))∧(a=true→bytesLess c q.1=false)∧∀ x∈l,x∉out→bytesLess x q.1=false)
 | [],c,a=>by
  simp only [mb]
  refine⟨by simp,fun h=>⟨.inl ⟨h,by trivial⟩,fun _=>wI c,fun x m=>(by cases m)⟩⟩
 | s::l,c,a=>by
  simp only [mb]
  by_cases h1:dW out s=true
  ·have m:=(fH _ _).1 h1
   simp only [h1,Bool.not_true,Bool.false_and,Bool.false_eq_true,if_false]
   obtain⟨k1,k2⟩:=sR out l c a
   refine⟨k1.trans ⟨fun h=>⟨h.1,fun x hx=> ?_⟩,fun h=>⟨h.1,fun x hx=>h.2 x (List.mem_cons_of_mem _ hx)⟩⟩,fun h=> ?_⟩
   ·rcases List.mem_cons.1 hx with rfl | hx
    ·exact m
    ·exact h.2 x hx
   ·obtain⟨g1,g2,g3⟩:=k2 h
    refine⟨g1.imp_right fun h=>⟨List.mem_cons_of_mem _ h.1,h.2⟩,g2,fun x hx hn=> ?_⟩
    rcases List.mem_cons.1 hx with rfl | hx
    ·exact absurd m hn
    ·exact g3 x hx hn
  ·have m:s∉out:=fun m=>h1 ((fH _ _).2 m)
   have qC:dW out s=false:=by simpa using h1
   by_cases h2:(!a || bytesLess s c)=true
   ·simp only [qC,h2,Bool.not_false,Bool.and_self,if_true]
    obtain⟨k1,k2⟩:=sR out l s true
    refine⟨⟨fun h=>absurd (k1.1 h).1 (by simp),fun h=>absurd (h.2 s List.mem_cons_self) m⟩,fun h=> ?_⟩
    obtain⟨g1,g2,g3⟩:=k2 h
    have g4:=g2 rfl
    refine⟨.inr ?_,fun ha=> ?_,fun x hx hn=> ?_⟩
    ·rcases g1 with ⟨_,e⟩ | g1
     ·rw [e];exact⟨List.mem_cons_self,m⟩
     ·exact⟨List.mem_cons_of_mem _ g1.1,g1.2⟩
    ·have h3:bytesLess s c=true:=by simpa [ha]using h2
     cases hh:bytesLess c (mb out l s true).1
     ·rfl
     ·have:=Cr _ _ _ h3 hh;rw [g4]at this;cases this
    ·rcases List.mem_cons.1 hx with rfl | hx
     ·exact g4
     ·exact g3 x hx hn
   ·have v7:(!a || bytesLess s c)=false:=by simpa using h2
    have ha:a=true:=by cases a <;> simp_all
    have h3:bytesLess s c=false:=by cases a <;> simp_all
    simp only [qC,v7,Bool.not_false,Bool.and_false,Bool.false_eq_true,if_false]
    obtain⟨k1,k2⟩:=sR out l c a
    refine⟨⟨fun h=>absurd (k1.1 h).1 (by simp [ha]),fun h=>absurd h.1 (by simp [ha])⟩,fun h=> ?_⟩
    obtain⟨g1,g2,g3⟩:=k2 h
    refine⟨g1.imp_right fun h=>⟨List.mem_cons_of_mem _ h.1,h.2⟩,g2,fun x hx hn=> ?_⟩
    rcases List.mem_cons.1 hx with rfl | hx
    ·cases hh:bytesLess x (mb out l c a).1
     ·rfl
     ·have g4:=g2 ha
      rcases wJ x c with e | e | e
      ·rw [h3]at e;cases e
      ·subst e;rw [g4]at hh;cases hh
      ·have:=Cr _ _ _ e hh;rw [g4]at this;cases this
    ·exact g3 x hx hn
theorem vN (l:List ay) : ∀ (n:Nat) (out:List ay),zp out→(∀ x∈out,x∈l)→(∀ x∈out,∀ y∈l,y∉out→bytesLess x y=true)→
 zp (om l n out)∧(∀ x∈om l n out,x∈l)∧(∀ x∈out,x∈om l n out)∧((∀ x∈l,x∈om l n out)∨(om l n out).length=out.length+n)
 | 0,out,h1,h2,h3=>⟨h1,h2,fun x m=>m, .inr rfl⟩
 | n+1,out,h1,h2,h3=>by
  simp only [om,OZ]
  obtain⟨k1,k2⟩:=sR out l [] false
  cases hq:(mb out l [] false).2
  ·simp only [Bool.false_eq_true,if_false]
   obtain⟨g1,g2,g3,g4⟩:=vN l n out h1 h2 h3
   exact⟨g1,g2,g3, .inl fun x m=>g3 x ((k1.1 hq).2 x m)⟩
  ·simp only [if_true]
   obtain⟨g1,_,g3⟩:=k2 hq
   have g1:(mb out l [] false).1∈l∧(mb out l [] false).1∉out:=by
    rcases g1 with ⟨h,_⟩ | g1
    ·cases h
    ·exact g1
   generalize (mb out l [] false).1=c at g1 g3
   obtain⟨r1,r2,r3,r4⟩:=vN l n (out++ [c])
    (by
     refine List.pairwise_append.2 ⟨h1,by simp,fun x hx y hy=> ?_⟩
     have:y=c:=by simpa using hy
     subst this
     exact h3 x hx y g1.1 g1.2)
    (fun x hx=>by
     rcases List.mem_append.1 hx with hx | hx
     ·exact h2 x hx
     ·have:x=c:=by simpa using hx
      subst this;exact g1.1)
    (fun x hx y hy hn=>by
     have hyo:y∉out:=fun m=>hn (List.mem_append_left _ m)
     have hyc:y≠c:=fun e=>hn (List.mem_append_right _ (by simp [e]))
     rcases List.mem_append.1 hx with hx | hx
     ·exact h3 x hx y hy hyo
     ·have:x=c:=by simpa using hx
      subst this
      rcases wJ x y with h | h | h
      ·exact h
      ·exact absurd h.symm hyc
      ·rw [g3 y hy hyo]at h;cases h)
   refine⟨r1,r2,fun x m=>r3 x (List.mem_append_left _ m),r4.imp_right fun h=> ?_⟩
   rw [h];simp;omega
theorem u5 : ∀ (a l:List ay),a.Nodup→(∀ x∈a,x∈l)→a.length≤l.length
 | [],l,_,_=>Nat.zero_le _
 | x::a,l,h,hm=>by
  obtain⟨h1,h2⟩:=List.nodup_cons.1 h
  have m:=hm x List.mem_cons_self
  have:=u5 a (l.erase x) h2 fun y hy=>(List.mem_erase_of_ne (fun e=>h1 (by rw [← e];exact hy))).2 (hm y (List.mem_cons_of_mem _ hy))
  rw [List.length_erase_of_mem m]at this
  have:0<l.length:=List.length_pos_of_mem m
  simp only [List.length_cons];omega
theorem sS {l:List ay} (h:zp l):l.Nodup:=h.imp fun {a b} h e=>by subst e;rw [wI]at h;cases h
theorem iw (l:List ay):zp (iJ l)∧∀ x,x∈iJ l↔x∈l:=by
 obtain⟨h1,h2,h3,h4⟩:=vN l l.length [] List.Pairwise.nil (fun x m=>(by cases m)) (fun x m=>(by cases m))
 refine⟨h1,fun x=>⟨h2 x,fun m=> ?_⟩⟩
 rcases h4 with h4 | h4
 ·exact h4 x m
 ·refine Classical.byContradiction fun hn=> ?_
  have:=u5 (x::om l l.length []) l (List.nodup_cons.2 ⟨hn,sS h1⟩) fun y hy=>by
   rcases List.mem_cons.1 hy with rfl | hy
   ·exact m
   ·exact h2 y hy
  simp only [List.length_cons,h4,List.length_nil]at this
  omega
theorem IY (zs:List ay) (hs:zs.Pairwise fun a b=>bytesLess b a=false) : ∀ m,m≤zs.length→
 zp (Lib.compactUpTo zs.toArray m)∧(∀ x,x∈Lib.compactUpTo zs.toArray m↔x∈zs.take m):=by
 intro m
 induction m with
 | zero=>intro _;exact⟨by simp [Lib.compactUpTo,zp],fun x=>by simp [Lib.compactUpTo]⟩
 | succ m ih=>
  intro hm
  obtain⟨h1,h2⟩:=ih (by omega)
  have hz:zs[m]? = some zs[m]:=List.getElem?_eq_getElem (by omega)
  have e1:zs.toArray[m]! = zs[m]:=by simp [hm,Nat.lt_of_succ_le hm]
  have et:zs.take (m+1)=zs.take m++ [zs[m]]:=by rw [List.take_add_one,hz];rfl
  rw [Lib.compactUpTo_succ,e1,et]
  by_cases hk:Lib.keeps zs.toArray m=true
  ·rw [if_pos hk]
   refine⟨List.pairwise_append.2 ⟨h1,by simp,fun x hx y hy=> ?_⟩,fun x=>by rw [List.mem_append,List.mem_append,h2]⟩
   have hy:y=zs[m]:=by simpa using hy
   subst hy
   have hx:=(h2 x).1 hx
   simp only [Lib.keeps,decide_eq_true_eq]at hk
   rcases hk with rfl | hk
   ·simp at hx
   ·have Ho:m - 1<zs.length:=by omega
    have e2:zs.toArray[m - 1]! = zs[m - 1]:=by simp [Ho]
    rw [e1,e2]at hk
    have h0:0<m:=by
     cases m with
     | zero=>simp at hx
     | succ m=>omega
    have hle : ∀ i j (hi:i<zs.length) (hj:j<zs.length),i<j→bytesLess zs[j] zs[i] = false:=fun i j hi hj Tb=>List.pairwise_iff_getElem.1 hs i j hi hj Tb
    have g1:bytesLess zs[m] zs[m - 1] = false:=hle (m - 1) m Ho (by omega) (by omega)
    have g2:bytesLess zs[m - 1] zs[m] = true:=by
     rcases wJ zs[m - 1] zs[m]with h | h | h
     ·exact h
     ·exact absurd h.symm hk
     ·rw [g1]at h;cases h
    obtain⟨i,hi,rfl⟩:=List.mem_iff_getElem.1 hx
    rw [List.length_take]at hi
    rw [List.getElem_take]
    by_cases Az:i=m - 1
    ·subst Az;exact g2
    ·have g3:=hle i (m - 1) (by omega) Ho (by omega)
     rcases wJ zs[i] zs[m - 1]with h | h | h
     ·exact Cr _ _ _ h g2
     ·rw [h];exact g2
     ·rw [g3]at h;cases h
  ·rw [if_neg hk]
   simp only [List.append_nil]
   refine⟨h1,fun x=> ?_⟩
   rw [h2]
   simp only [Lib.keeps,decide_eq_true_eq,not_or,ne_eq,Decidable.not_not]at hk
   obtain⟨k1,k2⟩:=hk
   have Ho:m - 1<zs.length:=by omega
   have e2:zs.toArray[m - 1]! = zs[m - 1]:=by simp [Ho]
   rw [e1,e2]at k2
   simp only [List.mem_append,List.mem_singleton]
   constructor
   ·exact .inl
   ·rintro(h | rfl)
    ·exact h
    ·rw [k2]
     exact List.mem_iff_getElem.2 ⟨m - 1,by rw [List.length_take];omega,by rw [List.getElem_take]⟩
theorem Em (l:List ay):(lk l).Pairwise fun a b=>bytesLess b a=false:=by
 have h:=List.pairwise_mergeSort (le:=fun x y:ay=>decide (x≤y)) (fun a b c h1 h2=> ?_) (fun a b=> ?_) l
 ·refine h.imp fun {a b} h=> ?_
  rw [decide_eq_true_eq]at h
  show Go.Op.bytesLess b a=false
  rw [Go.Proofs.bytesLess_eq]
  simpa using h
 ·rw [decide_eq_true_eq]at h1 h2 ⊢
  exact List.le_trans h1 h2
 ·have:=List.le_total a b
  simpa using this
theorem zq (l:List ay):Lib.compact (lk l)=iJ l:=by
 obtain⟨h1,h2⟩:=IY (lk l) (Em l) (lk l).length (Nat.le_refl _)
 obtain⟨h3,h4⟩:=iw l
 refine vM h1 h3 fun x=> ?_
 rw [h4]
 refine(h2 x).trans ?_
 rw [List.take_length]
 exact(List.mergeSort_perm _ _).mem_iff
end Go.Abs

/-! Tc1 -/

namespace Go.Abs
set_option maxRecDepth 8000
open Go.Proofs
def ix:List Sm→List ay
 | []=> []
 | v::l=>if v.kind==4 then v.proc::ix l else ix l
theorem AU : ∀ l:List Sm,(ix l).length≤l.length
 | []=>Nat.le_refl _
 | v::l=>by
  simp only [ix]
  have:=AU l
  split <;> simp <;> omega
def Pc.calls (f:Pc):List ay:=iJ (ix (Sm.dh f.body))
theorem zr {name:ay} : ∀ {l:List Pc} {k:Nat} {f:Pc},iX name l=some f→∃ j,l[j]? = some f∧lC (fun f:Pc=>f.name==name) (k:Int) l=((k+j:Nat):Int)
 | g::l,k,f,h=>by
  simp only [iX]at h
  cases e:(g.name==name)
  ·rw [e]at h
   simp only [Bool.false_eq_true,if_false]at h
   obtain⟨j,h1,h2⟩:=zr (k:=k+1) h
   refine⟨j+1,by simpa using h1, ?_⟩
   simp only [lC,e,Bool.false_eq_true,if_false]
   rw [show((k:Int)+1)=((k+1:Nat):Int)from rfl,h2]
   congr 1;omega
  ·rw [e]at h
   simp only [if_true,Option.some.injEq]at h
   exact⟨0,by simpa using h,by simp [lC,e]⟩
theorem Wu {p:Pg} (h:p.jX) {name:ay} {f:Pc} (hf:p.find name=some f) (s:St):aD Tryz.prog sa [.dI (gO p) 0, .str name] s (.slice .shared 1 (f.calls.map encStr)) s:=by
 refine aD.pure ?_ (by simp [D.bJ,D.ok,xi]) (by simp only [D.ok,Tag.ok,eD];rfl) s
 obtain⟨tf,sy,x4⟩:=h.procs
 obtain⟨j,hj,sn⟩:=zr (k:=0) hf
 have sn:p.at name=((j:Nat):Int):=by unfold Pg.at;simpa using sn
 have AR:=fun s=>Oy (p:=p) (by omega) name s
 rw [sn]at AR
 obtain⟨it,wF,Co⟩:=RP hj (by omega)
 have ZA:it.length≤900000:=by
  have e:=congrArg List.length wF
  obtain⟨a,b,e',_,_,e3,e4⟩:=(pE p).2 j f hj
  have e5:=pF p
  have e6:=congrArg List.length e3
  rw [e4]at e5
  simp only [List.length_map,List.length_append]at e e5 e6
  omega
 unfold S0
 obtain⟨fn,x6,AS⟩:=B6
 refine aD.intro ⟨fn,x6,AS⟩ (Nat.le_of_ble_eq_true rfl) fun B hB=> ?_
 generalize hQ:ig (⟨[],[]⟩:St).aA.length (⟨[],[]⟩:St).aC.length _ _ (⟨[],[]⟩:St)=Q
 have⟨hP,hY,hZ,gA⟩:=bw
 refine Sem.kb ?_
 repeat' (first
 | simp only [go_sem,hP,hY,hZ,gA]
 | (with_reducible refine aF hQ ?_;simp only [az,aB,Option.some.injEq,exists_eq_left',go_sem,hP,hY,hZ,gA];repeat' (first | exact Ok.out | with_reducible refine aG ?_ ?_ | (simp;done))))
 refine Sem.kb ?_
 repeat' (first
 | simp only [go_sem,hP,hY,hZ,gA]
 | (with_reducible refine aF hQ ?_;simp only [az,aB,Option.some.injEq,exists_eq_left',go_sem,hP,hY,hZ,gA];repeat' (first | exact Ok.out | with_reducible refine aG ?_ ?_ | (simp;done))))
 refine Sem.kb ?_
 repeat' (first
 | simp only [go_sem,hP,hY,hZ,gA]
 | (with_reducible refine CU (AR _) ?_)
 | (with_reducible refine CU (Co _) ?_)
 | (with_reducible refine aF hQ ?_;simp only [az,aB,Option.some.injEq,exists_eq_left',go_sem,hP,hY,hZ,gA];repeat' (first | exact Ok.out | with_reducible refine aG ?_ ?_ | (simp;done))))
 refine bj.nT 5 1 rfl ?_
 simp only [go_sem,hP,hY,hZ,gA]
 obtain⟨R,hR⟩ : ∃ R,R=ix (Sm.dh f.body):=⟨_,rfl⟩
 have hRl:R.length≤900000:=by rw [hR, ← wF];have:=AU (it.map Im.s);rw [List.length_map]at this;omega
 refine cM 0 1 (bj.ind (ι:=List Im×Nat×List ay×Nat) (fun i=>it.drop i.2.1=i.1∧i.2.2.1++ix (i.1.map Im.s)=R∧i.2.2.2=i.2.2.1.length) (fun i=>i.1.length)
  (fun i=> [(5, .slice (.tok 0) 1 (i.2.2.1.map encStr)),(12, .slice .shared 17 (it.map eO)),(13, .int .i64 (it.length:Int)),(14, .int .i64 (i.2.1:Int))]) (fun i=>⟨[],[some i.2.2.2]⟩) ?_ (it,0,[],0) ⟨rfl,by rw [hR,wF];rfl,rfl⟩)
 rintro⟨rest,k,out,n⟩ ⟨h1,h2,h3⟩ IH
 dsimp only at h1 h2 h3
 subst h3
 have oL:out.length≤900000:=by have:=congrArg List.length h2;rw [List.length_append]at this;omega
 cases rest with
 | cons a rest=>
  obtain⟨hY,g2,hP,g4⟩:=drop_cons h1
  have cz:k<4611686018427387904:=by omega
  have hZ:(out.length+1)*17≤bx:=by unfold bx;omega
  simp only [List.map_cons,ix]at h2
  rcases Bool.eq_false_or_eq_true (a.s.kind==4)with c1 | c1
  ·simp only [c1,if_true]at h2
   repeat' (first
 | simp only [go_sem,hP,hY,hZ,gA,c1]
 | (with_reducible refine aF hQ ?_;simp only [az,aB,Option.some.injEq,exists_eq_left',go_sem,hP,hY,hZ,gA];repeat' (first | exact Ok.out | with_reducible refine aG ?_ ?_ | (simp;done))))
   refine eo 0 1 ?_ ?_ (IH (rest,k+1,out++ [a.s.proc],out.length+1) ⟨g2,by rw [← h2];simp,by simp⟩ (Nat.lt_succ_self _))
   ·(simp only [go_sem,hP,hY,hZ,gA,aN cz,List.map_append,List.map_cons,List.map_nil,encStr];try exact bQ)
   ·(simp only [go_sem,hP,hY,hZ,gA,aN cz,List.map_append,List.map_cons,List.map_nil,encStr];try exact bQ)
  ·simp only [c1,Bool.false_eq_true,if_false]at h2
   repeat' (first
 | simp only [go_sem,hP,hY,hZ,gA,c1]
 | (with_reducible refine aF hQ ?_;simp only [az,aB,Option.some.injEq,exists_eq_left',go_sem,hP,hY,hZ,gA];repeat' (first | exact Ok.out | with_reducible refine aG ?_ ?_ | (simp;done))))
   refine eo 0 1 ?_ ?_ (IH (rest,k+1,out,_) ⟨g2,h2,rfl⟩ (Nat.lt_succ_self _))
   ·(simp only [go_sem,hP,hY,hZ,gA,aN cz];try exact bQ)
   ·(simp only [go_sem,hP,hY,hZ,gA,aN cz];try exact bQ)
 | nil=>
  have hP:=drop_nil h1
  simp only [List.map_nil,ix,List.append_nil]at h2
  subst h2
  have Cp:(lk out).length=out.length:=List.length_mergeSort out
  repeat' (first
 | simp only [go_sem,hP,hY,hZ,gA]
 | (with_reducible refine aF hQ ?_;simp only [az,aB,Option.some.injEq,exists_eq_left',go_sem,hP,hY,hZ,gA];repeat' (first | exact Ok.out | with_reducible refine aG ?_ ?_ | (simp;done))))
  refine Sem.seq (Sem.sort (k:=5) (t:=0) (l:=out) hB (by decide) (by decide) (by decide) rfl rfl (by omega) ?_)
  show Sem _ _ _ _ _ _ _
  refine Sem.seq (Sem.compact (k:=5) (t:=0) (l:=lk out) hB (by decide) rfl (by rw [Cp];rfl) (by rw [Cp];omega) ?_)
  rw [zq]
  have alr:f.calls=iJ out:=by unfold Pc.calls;rw [hR]
  rw [alr]at hQ
  refine gN (ac:= .ret) (Q:=Q) (tm:= [(32, .slice (.tok 0) 1 ((iJ out).map encStr)),(4, .slice (.tok 0) 1 ((iJ out).map encStr))]) (s:=⟨[],[some (iJ out).length]⟩) ?_
  repeat' (first
 | simp only [go_sem,hP,hY,hZ,gA]
 | (with_reducible refine aF hQ ?_;simp only [az,aB,Option.some.injEq,exists_eq_left',go_sem,hP,hY,hZ,gA];repeat' (first | exact Ok.out | with_reducible refine aG ?_ ?_ | (simp;done))))
end Go.Abs

/-! Tc2 -/

namespace Go.Abs
set_option maxRecDepth 8000
open Go.Proofs
theorem En {name:ay} : ∀ {l:List Pc},name∈l.map (·.name)→∃ f,iX name l=some f
 | f::l,h=>by
  simp only [iX]
  cases e:(f.name==name)
  ·simp only [Bool.false_eq_true,if_false]
   refine En ?_
   rcases List.mem_cons.1 h with h | h
   ·rw [h]at e;simp at e
   ·exact h
  ·exact⟨f,rfl⟩
theorem Eo {p:Pg} {f:Pc} {procs:List ay} : ∀ {l:List Sm},sh p f procs l=none→∀ v∈l,v.known p f procs=true
 | v::l,h,w,m=>by
  simp only [sh]at h
  split at h
  ·rename_i e
   rcases List.mem_cons.1 m with rfl | m
   ·exact e
   ·exact Eo h w m
  ·cases h
theorem Ep {p:Pg} {procs:List ay} : ∀ {l:List Pc},((oW p procs l).1==0)=true→∀ f∈l,fM (p.globals++f.own)=false∧∀ v∈Sm.dh f.body,v.known p f procs=true
 | g::l,h,f,m=>by
  simp only [oW]at h
  split at h
  ·cases h
  ·rename_i e
   split at h
   ·cases h
   ·rename_i e2
    rcases List.mem_cons.1 m with rfl | m
    ·exact⟨by simpa using e,Eo e2⟩
    ·exact Ep h f m
theorem Hy {p:Pg} (h:(p.scope.1==0)=true):fM p.globals=false∧fM p.pn=false∧p.ql=false∧∀ f∈p.procs,fM (p.globals++f.own)=false∧∀ v∈Sm.dh f.body,v.known p f p.pn=true:=by
 unfold Pg.scope at h
 split at h
 ·split at h
  ·cases h
  ·rename_i e
   simp only [Bool.or_eq_true,not_or,Bool.not_eq_true]at e
   exact⟨e.1,e.2.1,e.2.2,Ep h⟩
 ·cases h
theorem vO {x:ay} : ∀ {l:List Sm},x∈ix l↔∃ v∈l,v.kind=4∧v.proc=x
 | []=>by simp [ix]
 | v::l=>by
  simp only [ix]
  cases e:(v.kind==4)
  ·have:v.kind≠4:=by simpa using e
   simp [this,vO (l:=l)]
  ·have:v.kind=4:=by simpa using e
   simp only [if_true,List.mem_cons,vO (l:=l),exists_eq_or_imp,this,true_and]
   constructor
   ·rintro(h | h)
    ·exact .inl h.symm
    ·exact .inr h
   ·rintro(h | h)
    ·exact .inl h.symm
    ·exact .inr h
theorem O2 {f:Pc} {x:ay} : x∈f.calls↔∃ v∈Sm.dh f.body,v.kind=4∧v.proc=x:=by
 unfold Pc.calls;rw [(iw _).2,vO]
theorem vP {p:Pg} (h:(p.scope.1==0)=true) {f:Pc} (hf:f∈p.procs) {x:ay} (m:x∈f.calls) : ∃ g,p.find x=some g:=by
 obtain⟨v,hv,h4,rfl⟩:=O2.1 m
 have hk:=((Hy h).2.2.2 f hf).2 v hv
 simp only [Sm.known,h4,Bool.and_eq_true,Bool.or_eq_true]at hk
 rcases hk.2 with h | ⟨_,h⟩
 ·simp at h
 ·exact En ((fH _ _).1 h)
def mX (p:Pg) (x:ay):List ay:=match p.find x with | some f=>f.calls | none=> []
def qR (out:List ay):List ay→List ay
 | []=>out
 | x::l=>qR (q9 out x) l
def lP (p:Pg):Nat→Nat→List ay→List ay
 | 0,_,out=>out
 | n+1,i,out=>match out[i]? with
  | some x=>lP p n (i+1) (qR out (mX p x))
  | none=>out
def Pg.work (p:Pg) (name:ay):List ay:=lP p (p.procs.length+1) 0 [name]
def Good (p:Pg) (out:List ay):Prop:=out.Nodup∧∀ x∈out,∃ f,p.find x=some f
theorem Good.len {p:Pg} {out:List ay} (h:Good p out):out.length≤p.procs.length:=by
 have:=u5 out p.pn h.1 fun x m=>by
  obtain⟨f,hf⟩:=h.2 x m
  obtain⟨h1,h2⟩:=ph hf
  rw [← h2];exact List.mem_map_of_mem h1
 simpa [Pg.pn]using this
theorem Good.spk {p:Pg} {out:List ay} (h:Good p out) {x:ay} (hx : ∃ f,p.find x=some f):Good p (q9 out x):=by
 unfold q9
 split
 ·exact h
 ·rename_i e
  have:x∉out:=fun m=>e ((fH _ _).2 m)
  refine⟨List.nodup_append.2 ⟨h.1,by simp,fun a ha b hb e'=> ?_⟩,fun y hy=> ?_⟩
  ·have hbx:b=x:=by simpa using hb
   rw [e',hbx]at ha;exact this ha
  ·rcases List.mem_append.1 hy with hy | hy
   ·exact h.2 y hy
   ·have:y=x:=by simpa using hy
    subst this;exact hx
theorem Good.add {p:Pg} : ∀ {l out:List ay},Good p out→(∀ x∈l,∃ f,p.find x=some f)→Good p (qR out l)
 | [],out,h,_=>h
 | x::l,out,h,hx=>Good.add (l:=l) (out:=q9 out x) (Good.spk h (hx x List.mem_cons_self)) fun y m=>hx y (List.mem_cons_of_mem _ m)
end Go.Abs

/-! Tc3 -/

namespace Go.Abs
set_option maxRecDepth 8000
open Go.Proofs
def tgB:Bool→Tag
 | true=> .tok 0
 | false=> .full
def tkB:Bool→Nat→List (Option Nat)
 | true,n=> [some n]
 | false,_=> []
end Go.Abs

/-! Bsl -/

namespace Go.Abs
def xo:AI→AI
 | .op d g (.cG z k n ps)=> .op d g (.s6 z k n ps)
 | a=>a
section
variable {P:Program}
theorem IZ {nt:Nat} {ops:Array Oper} {i:Nat} {o:Oper} {ai:AI} (hi:ops[i]? = some o) (hc:cI P nt ops o=some ai)
 {M:Map} {s:St} {w:World} {tm:Tm} {act:Act} (r:Rel M s w) (kK:Laid M s w) (ht:k7 M s tm act.tmps) {K':Tm→St→Prop} (h:ib P [xo ai] K' tm s)
 {K:Act→World→Prop} {Q:Exit→Act→World→Prop}
 (hK : ∀ d v s1 w1 M1,K' (tm.put ai.dst d) s1→Ext M s w M1 s1 w1→Rel M1 s1 w1→RD M1 s1 d v→K (act.put o.dst v) w1):wpOp P ops Q i K act w:=by
 by_cases hb : ∃ d g z k n ps,ai = .op d g (.cG z k n ps)
 ·obtain⟨d0,g0,z,k,n,ps,rfl⟩:=hb
  obtain⟨g,hg,_,hb⟩:=yH hc
  rw [rA hb]at hK
  simp only [wpOp,hi]
  have skip:K' (tm.put o.dst (.tuple [])) s→K (act.put o.dst Go.undef) w:=fun hk=>hK _ _ _ _ _ hk (Ext.refl M s w) r .undef
  have hd:=rA hb
  simp only [AI.dst]at hd
  subst hd
  have mP:Bv P o=some (.cG z k n ps)∧g0=g:=by
   unfold qT at hb
   split at hb
   ·split at hb
    ·obtain⟨xs,_,h⟩:=map_some hb;cases h
    ·cases hb
   ·obtain⟨xs,_,h⟩:=map_some hb;cases h
   ·split at hb
    ·cases hb
    ·split at hb
     ·rename_i mP
      simp only [Option.some.injEq,AI.op.injEq,true_and]at hb
      obtain⟨h1,h2⟩:=hb
      split at h2
      ·cases h2
      ·cases h2;exact⟨mP,h1.symm⟩
     ·rename_i ao fp mP
      simp only [Option.some.injEq,AI.op.injEq,true_and]at hb
      obtain⟨h1,h2⟩:=hb
      subst h2
      exact⟨mP,h1.symm⟩
     ·cases hb
  obtain⟨mP,rfl⟩:=mP
  simp only [xo,ib]at h
  rcases jl hg ht h with ⟨hw,hA⟩ | ⟨hw,hB⟩
  ·simp only [hw,if_true]
   left
   split at hA
   ·rename_i d s' pA
    obtain⟨v,w',M',dF,r',hv,e'⟩:=wY mP r ht pA
    unfold Oper.wp
    rcases dF with dF | ⟨dF,rfl⟩
    ·rw [dF,Oper.upon_value]
     exact hK _ _ _ _ _ hA e' r' hv
    ·rw [dF,Oper.upon_skip]
     exact hK _ _ _ _ _ hA e' r' hv
   ·exact hA.elim
  ·simp only [hw]
   exact skip hB
 ·have hs:xo ai=ai:=by
   unfold xo
   split
   ·rename_i d g z k n ps;exact absurd ⟨d,g,z,k,n,ps,rfl⟩ hb
   ·rfl
  rw [hs]at h
  exact vt hi hc r kK ht h hK
theorem Wv {a:AI} {r:List AI} {K:Tm→St→Prop} {tm:Tm} {s:St} (h:ib P (a::r) K tm s):ib P [a] (ib P r K) tm s:=by
 cases a <;> exact h
theorem Er {B:fj} {nt:Nat} {ops:Array Oper} {Q:Exit→Tm→St→Prop} : ∀ (l:List Nat) (ol:List Oper) (is:List AI),l.map (ops[·]?)=ol.map some→pO P nt ops ol=some is→
 ∀ (tm:Tm) (s:St) (act:Act) (w:World),ib P (is.map xo) (Q .normal) tm s→Holds B nt tm s act w→wpOps P ops (oC B nt Q) l act w
 | [],[],is,_,hc,tm,s,act,w,h,hh=>by cases hc;exact⟨tm,s,h,hh⟩
 | [],_::_,_,hl,_,_,_,_,_,_,_=>by simp at hl
 | _::_,[],_,hl,_,_,_,_,_,_,_=>by simp at hl
 | i::l,o::ol,is,hl,hc,tm,s,act,w,h,hh=>by
  simp only [List.map_cons,List.cons.injEq]at hl
  obtain⟨hi,hl⟩:=hl
  unfold pO at hc
  split at hc
  ·rename_i ai MX h1 h2
   cases hc
   obtain⟨M,e,r,ht,hn,hd⟩:=hh
   have o8:=vY h1
   have hdd:=rB h1
   rw [List.map_cons]at h
   have key:=IZ (K:=fun act w=>wpOps P ops (oC B nt Q) l act w) (Q:=oC B nt Q) hi h1 r (B.laid.ext e) ht (Wv h) (fun d v s1 w1 M1 hk e1 r1 hv=>
    Er (Q:=Q) l ol MX hl h2 _ _ _ _ hk (hdd ▸ Holds.put e ht hn hd o8 e1 r1 hv))
   simpa only [wpOps,wpOp,hi]using key
  ·cases hc
theorem Sem.swap {B:fj} {nt:Nat} {is:List AI} {Q:Exit→Tm→St→Prop} {tm:Tm} {s:St} (h:gB P B nt (.run (is.map xo)) Q tm s):Sem P B nt (.run is) Q tm s:=by
 intro c hc act w hh
 obtain⟨id,ops,rfl,hi⟩:=kC hc
 refine wp_region ?_
 exact Er _ _ is (yB ops) hi tm s act w (mZ h) hh
end
end Go.Abs

/-! Tc4 -/

namespace Go.Abs
set_option maxRecDepth 8000
open Go.Proofs
theorem L6 {l:List ay} (h:l.Nodup):lk l=iJ l:=by
 refine vM ?_ (iw l).1 fun x=> ?_
 ·have h1:=Em l
  have h2:(lk l).Nodup:=(List.mergeSort_perm l _).nodup_iff.2 h
  refine(List.pairwise_and_iff.2 ⟨h1,h2⟩).imp fun {a b} UR=> ?_
  rcases wJ a b with e | e | e
  ·exact e
  ·exact absurd e UR.2
  ·rw [UR.1]at e;cases e
 ·rw [(iw l).2];exact(List.mergeSort_perm l _).mem_iff
theorem zt {p:Pg} (jb:(p.scope.1==0)=true) : ∀ (n i:Nat) (out:List ay),Good p out→Good p (lP p n i out)
 | 0,i,out,h=>h
 | n+1,i,out,h=>by
  simp only [lP]
  split
  ·rename_i x hx
   obtain⟨g,hg⟩:=h.2 x (List.mem_of_getElem? hx)
   refine zt jb n _ _ (h.add fun y m=> ?_)
   unfold mX at m
   rw [hg]at m
   exact vP jb (ph hg).1 m
  ·exact h
theorem xp {p:Pg} {name:ay} {f:Pc} (hf:p.find name=some f):Good p [name]:=
 ⟨by simp,fun x m=>by
  have:x=name:=by simpa using m
  subst this;exact⟨f,hf⟩⟩
theorem Ww {p:Pg} (h:p.jX) (jb:(p.scope.1==0)=true) {name:ay} {f:Pc} (hf:p.find name=some f) (s:St):aD Tryz.prog vB [.dI (gO p) 0, .str name] s (.slice .shared 1 ((iJ (p.work name)).map encStr)) s:=by
 refine aD.pure ?_ (by simp [D.bJ,D.ok,xi]) (by simp only [D.ok,Tag.ok,eD];rfl) s
 obtain⟨tf,sy,x4⟩:=h.procs
 obtain⟨R,hR⟩ : ∃ R,p.work name=R:=⟨_,rfl⟩
 have hgR:Good p R:=hR ▸ zt jb _ _ _ (xp hf)
 rw [hR, ← L6 hgR.1]
 unfold Pg.work at hR
 have hg0:Good p [name]:=xp hf
 have hRl:=hgR.len
 unfold S0
 obtain⟨fn,x6,AS⟩:=Fc
 refine aD.intro ⟨fn,x6,AS⟩ (Nat.le_of_ble_eq_true rfl) fun B hB=> ?_
 generalize hQ:ig (⟨[],[]⟩:St).aA.length (⟨[],[]⟩:St).aC.length _ _ (⟨[],[]⟩:St)=Q
 have⟨hP,hY,hZ,gA⟩:=bw
 refine Sem.kb ?_
 repeat' (first
 | simp only [go_sem,hP,hY,hZ,gA]
 | (with_reducible first | refine br fun hc=> ?_ | refine bt fun hc=> ?_ | refine bu (fun hc=> ?_) fun hc=> ?_) <;> (try simp only [hc,bs, ↓reduceIte]at h) <;> try simp only [hc]
 | (with_reducible refine aF hQ ?_;exact lG)
 | (cases h;done))
 refine Sem.seq (Sem.swap ?_)
 simp only [List.map_cons,List.map_nil,xo]
 repeat' (first
 | simp only [go_sem,hP,hY,hZ,gA]
 | (with_reducible first | refine br fun hc=> ?_ | refine bt fun hc=> ?_ | refine bu (fun hc=> ?_) fun hc=> ?_) <;> (try simp only [hc,bs, ↓reduceIte]at h) <;> try simp only [hc]
 | (with_reducible refine aF hQ ?_;exact lG)
 | (cases h;done))
 refine Sem.kb ?_
 repeat' (first
 | simp only [go_sem,hP,hY,hZ,gA]
 | (with_reducible first | refine br fun hc=> ?_ | refine bt fun hc=> ?_ | refine bu (fun hc=> ?_) fun hc=> ?_) <;> (try simp only [hc,bs, ↓reduceIte]at h) <;> try simp only [hc]
 | (with_reducible refine aF hQ ?_;exact lG)
 | (cases h;done))
 refine cM 0 1 (bj.ind (ι:=Nat×Nat×List ay×Nat) (fun i=>lP p i.1 i.2.1 i.2.2.1=R∧Good p i.2.2.1∧i.1+i.2.1=p.procs.length+1∧i.2.2.2=i.2.2.1.length) (fun i=>i.1)
  (fun i=> [(0, .dI (gO p) 0),(5, .slice (.tok 0) 1 (i.2.2.1.map encStr)),(6, .int .i64 (i.2.1:Int))]) (fun i=>⟨[],[some i.2.2.2]⟩) ?_ (p.procs.length+1,0,[name],1) ⟨hR,hg0,rfl,rfl⟩)
 rintro⟨n,i,out,no⟩ ⟨h1,h2,h3,h4⟩ IH
 dsimp only at h1 h2 h3 h4
 subst h4
 have oL:=h2.len
 cases hx:out[i]? with
 | none=>
  have hP:decide ((i:Int)<(out.length:Int))=false:=by have:=List.getElem?_eq_none_iff.1 hx;simp;omega
  have:R=out:=by
   cases n with
   | zero=>simpa [lP]using h1.symm
   | succ n=>simp only [lP,hx]at h1;exact h1.symm
  subst this
  repeat' (first
 | simp only [go_sem,hP,hY,hZ,gA]
 | (with_reducible first | refine br fun hc=> ?_ | refine bt fun hc=> ?_ | refine bu (fun hc=> ?_) fun hc=> ?_) <;> (try simp only [hc,bs, ↓reduceIte]at h) <;> try simp only [hc]
 | (with_reducible refine aF hQ ?_;exact lG)
 | (cases h;done))
  refine Sem.seq (Sem.sort (k:=5) (t:=0) (l:=R) hB (by decide) (by decide) (by decide) rfl rfl (by omega) ?_)
  refine gN (ac:=YS) (Q:=Q) (tm:= [(5, .slice (.tok 0) 1 ((lk R).map encStr))]) (s:=⟨[],[some R.length]⟩) ?_
  repeat' (first
 | simp only [go_sem,hP,hY,hZ,gA]
 | (with_reducible first | refine br fun hc=> ?_ | refine bt fun hc=> ?_ | refine bu (fun hc=> ?_) fun hc=> ?_) <;> (try simp only [hc,bs, ↓reduceIte]at h) <;> try simp only [hc]
 | (with_reducible refine aF hQ ?_;exact lG)
 | (cases h;done))
 | some x=>
  have pB:=(List.getElem?_eq_some_iff.1 hx).1
  have hP:decide ((i:Int)<(out.length:Int))=true:=by simp;omega
  have Az:i<4611686018427387904:=by omega
  cases n with
  | zero=>omega
  | succ n=>
  simp only [lP,hx]at h1
  obtain⟨g,Hz⟩:=h2.2 x (List.mem_of_getElem? hx)
  have ZK:=(ph Hz).1
  have U1:=fun s=>Wu h Hz s
  have hcn:mX p x=g.calls:=by unfold mX;rw [Hz]
  rw [hcn]at h1
  have hth : ∀ y∈g.calls,∃ f,p.find y=some f:=fun y m=>vP jb ZK m
  have at0:g.calls.length≤p.procs.length:=Good.len ⟨sS (iw _).1,hth⟩
  obtain⟨W,hW⟩ : ∃ W,qR out g.calls=W:=⟨_,rfl⟩
  rw [hW]at h1
  repeat' (first
 | simp only [go_sem,hP,hY,hZ,gA,hx]
 | (with_reducible refine CU (U1 _) ?_)
 | (with_reducible first | refine br fun hc=> ?_ | refine bt fun hc=> ?_ | refine bu (fun hc=> ?_) fun hc=> ?_) <;> (try simp only [hc,bs, ↓reduceIte]at h) <;> try simp only [hc]
 | (with_reducible refine aF hQ ?_;(try cases h);simp only [az,aB,bB,bC,go_sem,hP,hY,hZ,gA,hx];try exact pV)
 | (cases h;done))
  refine cM 0 1 (bj.ind (ι:=List ay×Nat×List ay×Nat) (fun j=>g.calls.drop j.2.1=j.1∧qR j.2.2.1 j.1=W∧Good p j.2.2.1∧j.2.2.2=j.2.2.1.length) (fun j=>j.1.length)
   (fun j=> [(0, .dI (gO p) 0),(5, .slice (.tok 0) 1 (j.2.2.1.map encStr)),(6, .int .i64 (i:Int)),(22, .slice .shared 1 (g.calls.map encStr)),(23, .int .i64 (g.calls.length:Int)),(24, .int .i64 (j.2.1:Int))]) (fun j=>⟨[],[some j.2.2.2]⟩) ?_ (g.calls,0,out,out.length) ⟨rfl,hW,h2,rfl⟩)
  clear hW
  rintro⟨rest,k,cr,n'⟩ ⟨j1,j2,j3,j4⟩ UW
  dsimp only at j1 j2 j3 j4
  subst j4
  have at1:=j3.len
  cases rest with
  | nil=>
   have ZL:=drop_nil j1
   simp only [qR]at j2
   subst j2
   repeat' (first
 | simp only [go_sem,hP,hY,hZ,gA,ZL]
 | (with_reducible first | refine br fun hc=> ?_ | refine bt fun hc=> ?_ | refine bu (fun hc=> ?_) fun hc=> ?_) <;> (try simp only [hc,bs, ↓reduceIte]at h) <;> try simp only [hc]
 | (with_reducible refine aF hQ ?_;(try cases h);simp only [az,aB,bB,bC,go_sem,hP,hY,hZ,gA,ZL];try exact pV)
 | (cases h;done))
   refine eo 0 1 ?_ ?_ (IH (n,i+1,cr,cr.length) ⟨h1,j3,by dsimp only;omega,rfl⟩ (Nat.lt_succ_self _))
   ·(simp only [go_sem,hP,hY,hZ,gA,aN Az];try exact bQ)
   ·(simp only [go_sem,hP,hY,hZ,gA,aN Az];try exact bQ)
  | cons y rest=>
   obtain⟨n6,Jw,wH,jg4⟩:=drop_cons j1
   have rI:k<4611686018427387904:=by omega
   have hZ:(cr.length+1)*17≤bx:=by unfold bx;omega
   have Es:=fun g s=>iI (l:=cr) (by omega) y g s
   have hy:=hth y (List.mem_of_getElem? n6)
   have AJ:=j3.spk hy
   simp only [qR]at j2
   rcases Bool.eq_false_or_eq_true (dW cr y)with c1 | c1
   ·simp only [q9,c1,if_true]at j2
    repeat' (first
 | simp only [go_sem,hP,hY,hZ,gA,wH,n6,c1]
 | (with_reducible refine CU (Es _ _) ?_)
 | (with_reducible first | refine br fun hc=> ?_ | refine bt fun hc=> ?_ | refine bu (fun hc=> ?_) fun hc=> ?_) <;> (try simp only [hc,bs, ↓reduceIte]at h) <;> try simp only [hc]
 | (with_reducible refine aF hQ ?_;(try cases h);simp only [az,aB,bB,bC,go_sem,hP,hY,hZ,gA,wH,n6,c1];try exact pV)
 | (cases h;done))
    refine eo 0 1 ?_ ?_ (UW (rest,k+1,cr,cr.length) ⟨Jw,j2,j3,rfl⟩ (Nat.lt_succ_self _))
    ·(simp only [go_sem,hP,hY,hZ,gA,aN rI];try exact bQ)
    ·(simp only [go_sem,hP,hY,hZ,gA,aN rI];try exact bQ)
   ·simp only [q9,c1,Bool.false_eq_true,if_false]at j2 AJ
    repeat' (first
 | simp only [go_sem,hP,hY,hZ,gA,wH,n6,c1]
 | (with_reducible refine CU (Es _ _) ?_)
 | (with_reducible first | refine br fun hc=> ?_ | refine bt fun hc=> ?_ | refine bu (fun hc=> ?_) fun hc=> ?_) <;> (try simp only [hc,bs, ↓reduceIte]at h) <;> try simp only [hc]
 | (with_reducible refine aF hQ ?_;(try cases h);simp only [az,aB,bB,bC,go_sem,hP,hY,hZ,gA,wH,n6,c1];try exact pV)
 | (cases h;done))
    refine eo 0 1 ?_ ?_ (UW (rest,k+1,cr++ [y],cr.length+1) ⟨Jw,j2,AJ,by simp⟩ (Nat.lt_succ_self _))
    ·(simp only [go_sem,hP,hY,hZ,gA,aN rI,List.map_append,List.map_cons,List.map_nil,encStr];try exact bQ)
    ·(simp only [go_sem,hP,hY,hZ,gA,aN rI,List.map_append,List.map_cons,List.map_nil,encStr];try exact bQ)
end Go.Abs

/-! Tc5 -/

namespace Go.Abs
set_option maxRecDepth 8000
open Go.Proofs
theorem HA (name:ay) : ∀ l:List Pc,l.any (fun f=>f.name==name)=(iX name l).isSome
 | []=>rfl
 | f::l=>by
  simp only [List.any_cons,iX]
  cases e:(f.name==name)
  ·simp [HA name l]
  ·simp
theorem Si (name:ay) (f:Pc):aD Tryz.prog nz ([.agg (cA f)]++ [.ptr 0 0]) ⟨[[.str name]],[]⟩ (.bool (f.name==name)) ⟨[[.str name]],[]⟩:=by
 show aD Tryz.prog nz [.agg (cA f), .ptr 0 0] _ _ _
 refine aD.go Ap rfl fun B Q hB hQ=> ?_
 have⟨hP,hY,hZ,gA⟩:=bw
 repeat' (first
 | simp only [go_sem,hP,hY,hZ,gA]
 | (with_reducible refine aF hQ ?_;simp only [az,aB,Option.some.injEq,exists_eq_left',go_sem,hP,hY,hZ,gA];repeat' (first | exact Ok.out | with_reducible refine aG ?_ ?_ | (simp;done))))
def Pg.qm (p:Pg) (name:ay):Option Pc:=if p.scope.1==0 then p.find name else none
theorem Sj {p:Pg} (h:p.jX) (name:ay) (s:St):aD Tryz.prog rY [.agg (cd p), .str name] s (.bool (p.qm name).isSome) s:=by
 refine aD.pure ?_ (by simp [D.bJ,D.ok,iR]) rfl s
 obtain⟨tf,sy,x4⟩:=h.procs
 have sk:=fun s=>tV h s
 have hi:=fun {s:St} {o:Nat} (ho:s.aA[o]? = some [.str name])=>zi (yd (l:=p.procs) (f:=nz) (row:= [.str name]) (b:=fun f:Pc=>f.name==name) (by omega) rfl (by with_unfolding_all rfl) (fun x _=>Si name x)) rfl (Fu _) rfl ho
 have gF:=fun {s:St} {o:Nat} (ho:s.aA[o]? = some [.str name])=>(show aD Tryz.prog gj [.slice .shared 5 (p.procs.map cA), .gn 164 [.ptr o 0]] s (.bool (p.procs.any fun f:Pc=>f.name==name)) s from hi ho)
 simp only [HA]at gF
 unfold Pg.qm Pg.find
 unfold S0
 rcases Bool.eq_false_or_eq_true (p.scope.1==0)with b1 | b1
 ·simp only [b1,if_true]
  refine aD.go uN rfl fun B Q hB hQ=> ?_
  have⟨hP,hY,hZ,gA⟩:=bw
  repeat' (first
 | simp only [go_sem,hP,hY,hZ,gA,b1]
 | (with_reducible refine CU (sk _) ?_)
 | (with_reducible refine CU (gF (by with_unfolding_all rfl)) ?_)
 | (with_reducible refine aF hQ ?_;simp only [az,aB,Option.some.injEq,exists_eq_left',go_sem,hP,hY,hZ,gA];repeat' (first | exact Ok.out | with_reducible refine aG ?_ ?_ | (simp;done))))
 ·simp only [b1,Bool.false_eq_true,if_false,Option.isSome_none]
  refine aD.go uN rfl fun B Q hB hQ=> ?_
  have⟨hP,hY,hZ,gA⟩:=bw
  repeat' (first
 | simp only [go_sem,hP,hY,hZ,gA,b1]
 | (with_reducible refine CU (sk _) ?_)
 | (with_reducible refine CU (gF (by with_unfolding_all rfl)) ?_)
 | (with_reducible refine aF hQ ?_;simp only [az,aB,Option.some.injEq,exists_eq_left',go_sem,hP,hY,hZ,gA];repeat' (first | exact Ok.out | with_reducible refine aG ?_ ?_ | (simp;done))))
def Pg.asl (p:Pg) (name:ay):List ay:=match p.qm name with | some f=>f.calls | none=> []
def Pg.als (p:Pg) (name:ay):List ay:=match p.qm name with | some _=>iJ (p.work name) | none=> []
theorem zu {p:Pg} {name:ay} {f:Pc} (h:p.qm name=some f):(p.scope.1==0)=true∧p.find name=some f:=by
 unfold Pg.qm at h
 split at h
 ·exact⟨by assumption,h⟩
 ·cases h
end Go.Abs

/-! Tc6 -/

namespace Go.Abs
set_option maxRecDepth 8000
open Go.Proofs
def oo (p:Pg) (out:List ay):List ay→List ay
 | []=>out
 | v::l=>oo p (if dW p.globals v then out++ [v]else out) l
def oq (p:Pg) (out:List ay):List Sm→List ay
 | []=>out
 | v::l=>oq p (oo p out v.said) l
def jY (p:Pg) (n:ay):List Sm:=match p.find n with | some f=>Sm.dh f.body | none=> []
def o6 (p:Pg) (out:List ay):List ay→List ay
 | []=>out
 | n::l=>o6 p (oq p out (jY p n)) l
theorem xq (p:Pg) : ∀ (l out:List ay),out.length≤(oo p out l).length∧(oo p out l).length≤out.length+l.length
 | [],out=>⟨Nat.le_refl _,Nat.le_refl _⟩
 | v::l,out=>by
  simp only [oo]
  have h:=xq p l (if dW p.globals v then out++ [v]else out)
  have h2:out.length≤(if dW p.globals v then out++ [v]else out).length∧(if dW p.globals v then out++ [v]else out).length≤out.length+1:=by split <;> simp
  simp only [List.length_cons]
  omega
def nD:List Sm→Nat
 | []=>0
 | v::l=>v.said.length+nD l
theorem zv : ∀ a b:List Sm,nD (a++b)=nD a+nD b
 | [],b=>by simp [nD]
 | v::a,b=>by simp only [List.cons_append,nD,zv a b];omega
theorem Wx (v:Sm):v.said.length≤1+v.x.size+2*Ar.aW v.args:=by
 have : ∀ (l:List Ar) (out:List ay),(Ar.said out l).length≤out.length+2*Ar.aW l:=by
  intro l
  induction l with
  | nil=>intro out;simp [Ar.said]
  | cons a l ih=>
   intro out
   simp only [Ar.said,Ar.aW]
   refine Nat.le_trans (ih _) ?_
   have:=ko a.x
   have:1≤a.x.size:=by obtain⟨_,_,_,_⟩:=a.x;simp [Ex.size]
   simp only [List.length_append]
   split <;> simp <;> omega
 have h1:=this v.args (v.ra++v.x.names)
 have h2:=ko v.x
 have h4:v.ra.length≤1:=by unfold Sm.ra;split <;> simp
 simp only [List.length_append]at h1
 unfold Sm.said
 omega
mutual
theorem O3 : ∀ s:Sm,nD s.pre≤2*s.size
 | ⟨id,kind,labels,name,proc,x,has,args,aY,aT⟩=>by
  simp only [Sm.pre,nD,zv,Sm.size]
  have h1:=Wx ⟨id,kind,labels,name,proc,x,has,args,aY,aT⟩
  have h2:=sT aY
  have h3:=sT aT
  dsimp only at h1
  omega
theorem sT : ∀ l:List Sm,nD (Sm.dh l)≤2*Sm.aW l
 | []=>by simp [Sm.dh,nD,Sm.aW]
 | s::l=>by
  simp only [Sm.dh,zv,Sm.aW]
  have:=O3 s;have:=sT l;omega
end
theorem xr (p:Pg) : ∀ (l:List Sm) (out:List ay),out.length≤(oq p out l).length∧(oq p out l).length≤out.length+nD l
 | [],out=>⟨Nat.le_refl _,Nat.le_refl _⟩
 | v::l,out=>by
  simp only [oq,nD]
  have h:=xr p l (oo p out v.said)
  have h2:=xq p v.said out
  omega
theorem xu {p:Pg} (h:p.jX) : ∀ (l out:List ay),out.length≤(o6 p out l).length∧(o6 p out l).length≤out.length+l.length*1800000
 | [],out=>⟨Nat.le_refl _,by simp [o6]⟩
 | n::l,out=>by
  simp only [o6]
  have h1:=xu h l (oq p out (jY p n))
  have h2:=xr p (jY p n) out
  have h3:nD (jY p n)≤1800000:=by
   unfold jY
   split
   ·rename_i f hf
    have:=sT f.body
    have h4:=Pc.bW (ph hf).1
    have h5:=h.procs.2.1
    simp only [Pc.size]at h4
    omega
   ·simp [nD]
  simp only [List.length_cons]
  omega
theorem O4 {p:Pg} (h:p.may=true):p.procs.length≤16:=by
 unfold Pg.may at h
 split at h
 ·cases h
 ·rename_i c
  simp only [Bool.or_eq_true,decide_eq_true_eq,not_or,Int.not_lt,gt_iff_lt]at c
  have:=c.1.2
  omega
def Pg.pj (p:Pg) (name:ay):List ay:=o6 p [] (iJ (p.work name))
def Pg.kH (p:Pg) (name:ay):List ay:=match p.qm name with | some _=>iJ (p.pj name) | none=> []
theorem HC {p:Pg} (jb:(p.scope.1==0)=true) {name:ay} {f:Pc} (hf:p.find name=some f):Good p (iJ (p.work name)):=by
 have h:=zt jb (p.procs.length+1) 0 [name] (xp hf)
 refine⟨sS (iw _).1,fun x m=>h.2 x ?_⟩
 exact((iw _).2 x).1 m
theorem O5 {p:Pg} (h:p.jX) (name:ay) (s:St):aD Tryz.prog p6 [.agg (cd p), .str name] s (.slice .shared 1 ((p.kH name).map encStr)) s:=by
 refine aD.pure ?_ (by simp [D.bJ,D.ok,iR]) (by simp only [D.ok,Tag.ok,eD];rfl) s
 have hk:=fun s=>Sj h name s
 have dV:=fun s=>Cb (p:=p) (by have:=h.procs;omega) s
 unfold Pg.kH
 unfold S0
 cases Sk:p.qm name with
 | none=>
  simp only [Sk,Option.isSome_none]at hk
  simp only [List.map_nil]
  refine aD.go sw rfl fun B Q hB hQ=> ?_
  have⟨hP,hY,hZ,gA⟩:=bw
  repeat' (first
 | simp only [go_sem,hP,hY,hZ,gA]
 | (with_reducible refine CU (hk _) ?_)
 | (with_reducible refine aF hQ ?_;simp only [az,aB,Option.some.injEq,exists_eq_left',go_sem,hP,hY,hZ,gA];repeat' (first | exact Ok.out | with_reducible refine aG ?_ ?_ | (simp;done))))
 | some f=>
 obtain⟨jb,hf⟩:=zu Sk
 simp only [Sk,Option.isSome_some]at hk
 dsimp only
 obtain⟨tf,sy,x4⟩:=h.procs
 have hN:=HC jb hf
 obtain⟨N,ZM⟩ : ∃ N,iJ (p.work name)=N:=⟨_,rfl⟩
 rw [ZM]at hN
 have hNl:=hN.len
 obtain⟨R,hR⟩ : ∃ R,p.pj name=R:=⟨_,rfl⟩
 rw [hR]
 unfold Pg.pj at hR
 rw [ZM]at hR
 have hRl:R.length≤28800000:=by
  have:=(xu h N []).2
  rw [hR]at this
  have h4:=O4 (Ei jb)
  have h3:N.length*1800000≤16*1800000:=Nat.mul_le_mul_right _ (by omega)
  simp only [List.length_nil]at this
  omega
 have U1:=fun s=>Ww h jb hf s
 simp only [ZM]at U1
 obtain⟨fn,x6,AS⟩:=sw
 refine aD.intro ⟨fn,x6,AS⟩ (Nat.le_of_ble_eq_true rfl) fun B hB=> ?_
 generalize hQ:ig (⟨[],[]⟩:St).aA.length (⟨[],[]⟩:St).aC.length _ _ (⟨[],[]⟩:St)=Q
 have⟨hP,hY,hZ,gA⟩:=bw
 refine Sem.kb ?_
 repeat' (first
 | simp only [go_sem,hP,hY,hZ,gA]
 | (with_reducible refine aF hQ ?_;simp only [az,aB,Option.some.injEq,exists_eq_left',go_sem,hP,hY,hZ,gA];repeat' (first | exact Ok.out | with_reducible refine aG ?_ ?_ | (simp;done))))
 refine Sem.kb ?_
 repeat' (first
 | simp only [go_sem,hP,hY,hZ,gA]
 | (with_reducible refine CU (hk _) ?_)
 | (with_reducible refine aF hQ ?_;simp only [az,aB,Option.some.injEq,exists_eq_left',go_sem,hP,hY,hZ,gA];repeat' (first | exact Ok.out | with_reducible refine aG ?_ ?_ | (simp;done))))
 refine Sem.kb ?_
 repeat' (first
 | simp only [go_sem,hP,hY,hZ,gA]
 | (with_reducible refine CU (dV _) ?_)
 | (with_reducible refine aF hQ ?_;simp only [az,aB,Option.some.injEq,exists_eq_left',go_sem,hP,hY,hZ,gA];repeat' (first | exact Ok.out | with_reducible refine aG ?_ ?_ | (simp;done))))
 refine Sem.kb ?_
 repeat' (first
 | simp only [go_sem,hP,hY,hZ,gA]
 | (with_reducible refine aF hQ ?_;simp only [az,aB,Option.some.injEq,exists_eq_left',go_sem,hP,hY,hZ,gA];repeat' (first | exact Ok.out | with_reducible refine aG ?_ ?_ | (simp;done))))
 refine Sem.kb ?_
 repeat' (first
 | simp only [go_sem,hP,hY,hZ,gA]
 | (with_reducible refine CU (U1 _) ?_)
 | (with_reducible refine aF hQ ?_;simp only [az,aB,Option.some.injEq,exists_eq_left',go_sem,hP,hY,hZ,gA];repeat' (first | exact Ok.out | with_reducible refine aG ?_ ?_ | (simp;done))))
 refine bj.nT 6 1 rfl ?_
 simp only [go_sem,hP,hY,hZ,gA]
 refine cM 1 1 (bj.ind (ι:=List ay×Nat×List ay×Nat) (fun i=>N.drop i.2.1=i.1∧o6 p i.2.2.1 i.1=R∧i.2.2.1.length≤R.length∧i.2.2.2=i.2.2.1.length) (fun i=>i.1.length)
  (fun i=> [(2, .ptr 0 0),(5, .dI (gO p) 0),(6, .slice (.tok 0) 1 (i.2.2.1.map encStr)),(21, .slice .shared 1 (N.map encStr)),(22, .int .i64 (N.length:Int)),(23, .int .i64 (i.2.1:Int))]) (fun i=>⟨[cd p],[some i.2.2.2]⟩) ?_ (N,0,[],0) ⟨rfl,hR,Nat.zero_le _,rfl⟩)
 rintro⟨rest,k,out,no⟩ ⟨h1,h2,h3,h4⟩ IH
 dsimp only at h1 h2 h3 h4
 subst h4
 cases rest with
 | nil=>
  have hP:=drop_nil h1
  simp only [o6]at h2
  subst h2
  have Cp:(lk out).length=out.length:=List.length_mergeSort out
  repeat' (first
 | simp only [go_sem,hP,hY,hZ,gA]
 | (with_reducible refine aF hQ ?_;simp only [az,aB,Option.some.injEq,exists_eq_left',go_sem,hP,hY,hZ,gA];repeat' (first | exact Ok.out | with_reducible refine aG ?_ ?_ | (simp;done))))
  refine Sem.seq (Sem.sort (k:=6) (t:=0) (l:=out) hB (by decide) (by decide) (by decide) rfl rfl (by omega) ?_)
  refine Sem.seq (Sem.compact (k:=6) (t:=0) (l:=lk out) hB (by decide) rfl (by rw [Cp];rfl) (by rw [Cp];omega) ?_)
  rw [zq]
  refine gN (ac:= .ret) (Q:=Q) (tm:= [(59, .slice (.tok 0) 1 ((iJ out).map encStr)),(4, .slice (.tok 0) 1 ((iJ out).map encStr))]) (s:=⟨[],[some (iJ out).length]⟩) ?_
  repeat' (first
 | simp only [go_sem,hP,hY,hZ,gA]
 | (with_reducible refine aF hQ ?_;simp only [az,aB,Option.some.injEq,exists_eq_left',go_sem,hP,hY,hZ,gA];repeat' (first | exact Ok.out | with_reducible refine aG ?_ ?_ | (simp;done))))
 | cons x rest=>
  obtain⟨hY,g2,hP,g4⟩:=drop_cons h1
  have cz:k<4611686018427387904:=by omega
  obtain⟨g,Hz⟩:=hN.2 x (List.mem_of_getElem? hY)
  have ZK:=(ph Hz).1
  have hbd:jY p x=Sm.dh g.body:=by unfold jY;rw [Hz]
  simp only [o6,hbd]at h2
  obtain⟨j,hj,sn⟩:=zr (k:=0) Hz
  have sn:p.at x=((j:Nat):Int):=by unfold Pg.at;simpa using sn
  have AR:=fun s=>Oy (p:=p) (by omega) x s
  simp only [sn]at AR
  obtain⟨it,wF,Co⟩:=RP hj (by omega)
  have ZA:it.length≤900000:=by
   have e:=congrArg List.length wF
   obtain⟨a,b,e',_,_,e3,e4⟩:=(pE p).2 j g hj
   have e5:=pF p
   have e6:=congrArg List.length e3
   rw [e4]at e5
   simp only [List.length_map,List.length_append]at e e5 e6
   omega
  rw [← wF]at h2
  repeat' (first
 | simp only [go_sem,hP,hY,hZ,gA,hY]
 | (with_reducible refine CU (AR _) ?_)
 | (with_reducible refine CU (Co _) ?_)
 | (with_reducible refine aF hQ ?_;simp only [az,aB,Option.some.injEq,exists_eq_left',go_sem,hP,hY,hZ,gA];repeat' (first | exact Ok.out | with_reducible refine aG ?_ ?_ | (simp;done))))
  obtain⟨W,hW⟩ : ∃ W,oq p out (it.map Im.s)=W:=⟨_,rfl⟩
  rw [hW]at h2
  have hWR:W.length≤R.length:=by have:=(xu h rest W).1;rw [h2]at this;exact this
  have OY:out.length≤W.length:=by have:=(xr p (it.map Im.s) out).1;rw [hW]at this;exact this
  refine cM 1 1 (bj.ind (ι:=List Im×Nat×List ay×Nat) (fun i=>it.drop i.2.1=i.1∧oq p i.2.2.1 (i.1.map Im.s)=W∧i.2.2.1.length≤W.length∧i.2.2.2=i.2.2.1.length) (fun i=>i.1.length)
   (fun i=> [(2, .ptr 0 0),(5, .dI (gO p) 0),(6, .slice (.tok 0) 1 (i.2.2.1.map encStr)),(21, .slice .shared 1 (N.map encStr)),(22, .int .i64 (N.length:Int)),(23, .int .i64 (k:Int)),(31, .slice .shared 17 (it.map eO)),(32, .int .i64 (it.length:Int)),(33, .int .i64 (i.2.1:Int))]) (fun i=>⟨[cd p],[some i.2.2.2]⟩) ?_ (it,0,out,out.length) ⟨rfl,hW,OY,rfl⟩)
  rintro⟨u6,k2,Bn,no⟩ ⟨j1,j2,j3,j4⟩ Ch
  dsimp only at j1 j2 j3 j4
  subst j4
  cases u6 with
  | nil=>
   have alu:=drop_nil j1
   simp only [List.map_nil,oq]at j2
   subst j2
   repeat' (first
 | simp only [go_sem,hP,hY,hZ,gA,alu]
 | (with_reducible refine aF hQ ?_;simp only [az,aB,Option.some.injEq,exists_eq_left',go_sem,hP,hY,hZ,gA];repeat' (first | exact Ok.out | with_reducible refine aG ?_ ?_ | (simp;done))))
   refine eo 1 1 ?_ ?_ (IH (rest,k+1,Bn,Bn.length) ⟨g2,h2,hWR,rfl⟩ (Nat.lt_succ_self _))
   ·(simp only [go_sem,hP,hY,hZ,gA,aN cz];try exact bQ)
   ·(simp only [go_sem,hP,hY,hZ,gA,aN cz];try exact bQ)
  | cons y u6=>
   obtain⟨n6,Jw,wH,jg4⟩:=drop_cons j1
   have rI:k2<4611686018427387904:=by omega
   have hym:y.s∈Sm.dh g.body:=by rw [← wF];exact List.mem_map_of_mem (List.mem_of_getElem? n6)
   have Tc:=h.said ZK _ hym
   have US:=fun s=>zj Tc s
   have Cp:=Hq _ Tc
   simp only [List.map_cons,oq]at j2
   repeat' (first
 | simp only [go_sem,hP,hY,hZ,gA,wH,n6]
 | (with_reducible refine CU (US _) ?_)
 | (with_reducible refine aF hQ ?_;simp only [az,aB,Option.some.injEq,exists_eq_left',go_sem,hP,hY,hZ,gA];repeat' (first | exact Ok.out | with_reducible refine aG ?_ ?_ | (simp;done))))
   obtain⟨V,hV⟩ : ∃ V,oo p Bn y.s.said=V:=⟨_,rfl⟩
   rw [hV]at j2
   have hVW:V.length≤W.length:=by have:=(xr p (u6.map Im.s) V).1;rw [j2]at this;exact this
   have hoV:Bn.length≤V.length:=by have:=(xq p y.s.said Bn).1;rw [hV]at this;exact this
   refine cM 1 1 (bj.ind (ι:=List ay×Nat×List ay×Nat) (fun i=>y.s.said.drop i.2.1=i.1∧oo p i.2.2.1 i.1=V∧i.2.2.1.length≤V.length∧i.2.2.2=i.2.2.1.length) (fun i=>i.1.length)
    (fun i=> [(2, .ptr 0 0),(5, .dI (gO p) 0),(6, .slice (.tok 0) 1 (i.2.2.1.map encStr)),(21, .slice .shared 1 (N.map encStr)),(22, .int .i64 (N.length:Int)),(23, .int .i64 (k:Int)),(31, .slice .shared 17 (it.map eO)),(32, .int .i64 (it.length:Int)),(33, .int .i64 (k2:Int)),(39, .slice .shared 1 (y.s.said.map encStr)),(40, .int .i64 (y.s.said.length:Int)),(41, .int .i64 (i.2.1:Int))]) (fun i=>⟨[cd p],[some i.2.2.2]⟩) ?_ (y.s.said,0,Bn,Bn.length) ⟨rfl,hV,hoV,rfl⟩)
   rintro⟨Cs,k3,xv,no⟩ ⟨l1,l2,l3,l4⟩ IH3
   dsimp only at l1 l2 l3 l4
   subst l4
   cases Cs with
   | nil=>
    have alv:=drop_nil l1
    simp only [oo]at l2
    subst l2
    repeat' (first
 | simp only [go_sem,hP,hY,hZ,gA,alv]
 | (with_reducible refine aF hQ ?_;simp only [az,aB,Option.some.injEq,exists_eq_left',go_sem,hP,hY,hZ,gA];repeat' (first | exact Ok.out | with_reducible refine aG ?_ ?_ | (simp;done))))
    refine eo 1 1 ?_ ?_ (Ch (u6,k2+1,xv,xv.length) ⟨Jw,j2,hVW,rfl⟩ (Nat.lt_succ_self _))
    ·(simp only [go_sem,hP,hY,hZ,gA,aN rI];try exact bQ)
    ·(simp only [go_sem,hP,hY,hZ,gA,aN rI];try exact bQ)
   | cons z Cs=>
    obtain⟨ZN,lg2,llt,lg4⟩:=drop_cons l1
    have U2:k3<4611686018427387904:=by omega
    have Es:=fun g s=>iI (l:=p.globals) (by omega) z g s
    simp only [oo]at l2
    rcases Bool.eq_false_or_eq_true (dW p.globals z)with c1 | c1
    ·simp only [c1,if_true]at l2
     have hZ:(xv.length+1)*17≤bx:=by unfold bx;omega
     have hoo:(xv++ [z]).length≤V.length:=by have:=(xq p Cs (xv++ [z])).1;rw [l2]at this;exact this
     repeat' (first
 | simp only [go_sem,hP,hY,hZ,gA,llt,ZN,c1]
 | (with_reducible refine CU (Es _ _) ?_)
 | (with_reducible refine aF hQ ?_;simp only [az,aB,Option.some.injEq,exists_eq_left',go_sem,hP,hY,hZ,gA];repeat' (first | exact Ok.out | with_reducible refine aG ?_ ?_ | (simp;done))))
     refine eo 1 1 ?_ ?_ (IH3 (Cs,k3+1,xv++ [z],xv.length+1) ⟨lg2,l2,hoo,by simp⟩ (Nat.lt_succ_self _))
     ·(simp only [go_sem,hP,hY,hZ,gA,aN U2,List.map_append,List.map_cons,List.map_nil,encStr];try exact bQ)
     ·(simp only [go_sem,hP,hY,hZ,gA,aN U2,List.map_append,List.map_cons,List.map_nil,encStr];try exact bQ)
    ·simp only [c1,Bool.false_eq_true,if_false]at l2
     repeat' (first
 | simp only [go_sem,hP,hY,hZ,gA,llt,ZN,c1]
 | (with_reducible refine CU (Es _ _) ?_)
 | (with_reducible refine aF hQ ?_;simp only [az,aB,Option.some.injEq,exists_eq_left',go_sem,hP,hY,hZ,gA];repeat' (first | exact Ok.out | with_reducible refine aG ?_ ?_ | (simp;done))))
     refine eo 1 1 ?_ ?_ (IH3 (Cs,k3+1,xv,xv.length) ⟨lg2,l2,l3,rfl⟩ (Nat.lt_succ_self _))
     ·(simp only [go_sem,hP,hY,hZ,gA,aN U2];try exact bQ)
     ·(simp only [go_sem,hP,hY,hZ,gA,aN U2];try exact bQ)
end Go.Abs

/-! Tc7 -/

namespace Go.Abs
open Go.Proofs
end Go.Abs

/-! ScPr -/

namespace Go.Abs
open Go.Proofs
end Go.Abs

/-! FlP -/

namespace Go.Abs
mutual
def Sm.O6 (deep bS:Int) (aT:Bool):Sm→List It
 | ⟨id,kind,labels,name,proc,x,has,args,aY,e⟩=>⟨⟨id,kind,labels,name,proc,x,has,args,aY,e⟩,deep,bS,aT⟩::(Sm.Sl (deep+1) id false aY++Sm.Sl (deep+1) id true e)
def Sm.Sl (deep bS:Int) (aT:Bool):List Sm→List It
 | []=> []
 | s::l=>s.O6 deep bS aT++Sm.Sl deep bS aT l
end
def qn (l:List Sm) (none:Int):Int:=match l with | []=>none | t::_=>t.id
mutual
def Sm.pH (proc up next loop:Int):Sm→List Im
 | ⟨id,kind,labels,name,pc,x,has,args,aY,aT⟩=>⟨⟨id,kind,labels,name,pc,x,has,args,aY,aT⟩,proc,up,next,loop⟩::
  (Sm.iz proc id (if kind==6 then id else next) (if kind==6 then id else loop) aY++Sm.iz proc id (if kind==6 then id else next) (if kind==6 then id else loop) aT)
def Sm.iz (proc up next loop:Int):List Sm→List Im
 | []=> []
 | s::l=>s.pH proc up (qn l next) loop++Sm.iz proc up next loop l
end
def oF (n:Nat) (l:List Sm):Prop:=∀ (i:Nat) (v:Sm),l[i]? = some v→v.id=((n+i+1:Nat):Int)
theorem oF.head {n:Nat} {v:Sm} {l:List Sm} (h:oF n (v::l)):v.id=((n+1:Nat):Int):=h 0 v rfl
theorem oF.tail {n:Nat} {v:Sm} {l:List Sm} (h:oF n (v::l)):oF (n+1) l:=fun i w hw=>by
 rw [h (i+1) w (by simpa using hw)];congr 1;omega
theorem oF.left {n:Nat} {a b:List Sm} (h:oF n (a++b)):oF n a:=fun i w hw=>h i w (by rw [List.getElem?_append_left (List.getElem?_eq_some_iff.1 hw).1];exact hw)
theorem oF.right {n:Nat} {a b:List Sm} (h:oF n (a++b)):oF (n+a.length) b:=fun i w hw=>by
 rw [h (a.length+i) w (by rw [List.getElem?_append_right (by omega)];simpa using hw)];congr 1;omega
theorem Sn (s:Sm):s.pre=s::(Sm.dh s.aY++Sm.dh s.aT):=Sm.wD s
mutual
theorem JA : ∀ s:Sm,s.gV=s.pre.length
 | ⟨id,kind,labels,name,proc,x,has,args,aY,aT⟩=>by
  simp only [Sm.gV,Sm.pre,List.length_cons,List.length_append,xw aY,xw aT];omega
theorem xw : ∀ l:List Sm,Sm.dY l=(Sm.dh l).length
 | []=>rfl
 | s::l=>by simp only [Sm.dY,Sm.dh,List.length_append,JA s,xw l]
end
mutual
theorem U3 (proc up next loop:Int) : ∀ s:Sm,(s.pH proc up next loop).map Im.s=s.pre
 | ⟨id,kind,labels,name,pc,x,has,args,aY,aT⟩=>by
  simp only [Sm.pH,Sm.pre,List.map_cons,List.map_append,wL _ _ _ _ aY,wL _ _ _ _ aT]
theorem wL (proc up next loop:Int) : ∀ l:List Sm,(Sm.iz proc up next loop l).map Im.s=Sm.dh l
 | []=>rfl
 | s::l=>by simp only [Sm.iz,Sm.dh,List.map_append,U3 _ _ _ _ s,wL _ _ _ _ l]
end
theorem Wy (proc up next loop:Int) (s:Sm):(s.pH proc up next loop).length=s.pre.length:=by rw [← U3 proc up next loop s,List.length_map]
theorem HD (proc up next loop:Int) (l:List Sm):(Sm.iz proc up next loop l).length=(Sm.dh l).length:=by rw [← wL proc up next loop l,List.length_map]
mutual
theorem Wz (proc up next loop:Int) (out:List Im) : ∀ s:Sm,oF out.length s.pre→Im.one proc up next loop out s=out++s.pH proc up next loop
 | ⟨id,kind,labels,name,pc,x,has,args,aY,aT⟩,h=>by
  simp only [Sm.pre]at h
  have h0:id=((out.length+1:Nat):Int):=h.head
  have h1:=h.tail.left
  have h2:=h.tail.right
  have e0:((out.length:Int)+1)=id:=by rw [h0];rfl
  simp only [Im.one,Sm.pH,e0]
  rw [xx proc id _ _ (out++ [_]) aY (by rw [List.length_append];exact h1)]
  rw [xx proc id _ _ _ aT (by
   rw [List.length_append,List.length_append,HD];exact h2)]
  simp
theorem xx (proc up next loop:Int) (out:List Im) : ∀ l:List Sm,oF out.length (Sm.dh l)→Im.rows proc up next loop out l=out++Sm.iz proc up next loop l
 | [],h=>by simp [Im.rows,Sm.iz]
 | s::l,h=>by
  simp only [Sm.dh]at h
  have e:(if l.length=0 then next else(out.length:Int)+1+(s.gV:Int))=qn l next:=by
   cases l with
   | nil=>rfl
   | cons t l=>
    have h2:=h.right
    simp only [Sm.dh]at h2
    rw [Sn t]at h2
    simp only [List.length_cons,qn]
    rw [if_neg (by omega),h2.head,JA]
    omega
  simp only [Im.rows,Sm.iz,e]
  rw [Wz proc up _ loop out s h.left,xx proc up next loop _ l (by rw [List.length_append,Wy];exact h.right)]
  simp
end
def Dx (n:Nat):List Pc→List Im
 | []=> []
 | f::l=>Sm.iz n 0 (-1) 0 f.body++Dx (n+1) l
theorem WA {p:Pg} (h:p.may=true):oF 0 p.pre:=fun i v hv=>by rw [Zx h hv];congr 1;omega
def O7 (l:List It):Nat→Int→Int
 | 0,_=>0
 | n+1,bS=>if bS==0 then 0 else match l[n]? with
  | none=>0
  | some x=>if x.s.id != bS then O7 l n bS else if x.s.kind==6 then bS else O7 l n x.bS
def Up (L:List It) (k:Nat) (O6:List It) (pH:List Im):Prop:=∀ (i:Nat) (a:It) (b:Im),O6[i]? = some a→pH[i]? = some b→a.s=b.s∧a.bS=b.up∧O7 L (k+i) a.bS=b.loop
end Go.Abs

/-! JmpP -/

namespace Go.Abs
def hO (seen:List ay):List ay→List ay×Bool
 | []=>(seen,true)
 | n::l=>if dW seen n then(seen,false)else hO (seen++ [n]) l
theorem Et : ∀ (l seen:List ay),seen.length≤(hO seen l).1.length∧(hO seen l).1.length≤seen.length+l.length
 | [],seen=>by simp [hO]
 | n::l,seen=>by
  simp only [hO]
  split
  ·simp
  ·have:=Et l (seen++ [n]);simp at this ⊢;omega
def u7 (tW:List ay) (v:Sm) (loop:Int):Bool:=if v.kind==7 || v.kind==8 then loop != 0 else if v.kind==10 then dW tW v.name else true
def qo (tW fin seen:List ay):List (Sm×Int)→Option Int
 | []=>if(hO seen fin).2 then none else some 0
 | (v,lp)::l=>if(hO seen v.labels).2 then(if u7 tW v lp then qo tW fin (hO seen v.labels).1 l else some v.id)else some v.id
def gq:List Sm→List ay
 | []=> []
 | v::l=>v.labels++gq l
def Pc.labels (f:Pc):List ay:=gq (Sm.dh f.body)++f.fin
def Im.pair (m:Im):Sm×Int:=(m.s,m.loop)
def Pc.xy (f:Pc):List (Sm×Int):=(Sm.iz 0 0 (-1) 0 f.body).map Im.pair
def sU:List Pc→Option Int
 | []=>none
 | f::l=>match qo f.labels f.fin [] f.xy with
  | some id=>some id
  | none=>sU l
def wM (c:Int):Option Int→Int×Int
 | some id=>(c,id)
 | none=>(0,0)
def Pg.jump (p:Pg):Int×Int:=if p.scope.1==0 then wM 7 (sU p.procs)else(1,0)
mutual
theorem Sp (proc up next sV O8 next' loop:Int) : ∀ s:Sm,(s.pH proc up next loop).map Im.pair=(s.pH sV O8 next' loop).map Im.pair
 | ⟨id,kind,labels,name,pc,x,has,args,aY,aT⟩=>by
  simp only [Sm.pH,List.map_cons,List.map_append,Im.pair]
  rw [u9 proc id _ sV id (if kind==6 then id else next') _ aY,u9 proc id _ sV id (if kind==6 then id else next') _ aT]
theorem u9 (proc up next sV O8 next' loop:Int) : ∀ l:List Sm,(Sm.iz proc up next loop l).map Im.pair=(Sm.iz sV O8 next' loop l).map Im.pair
 | []=>rfl
 | s::l=>by
  simp only [Sm.iz,List.map_append]
  rw [Sp proc up _ sV O8 (qn l next') loop s,u9 proc up next sV O8 next' loop l]
end
theorem Sq (n:Int) (f:Pc):(Sm.iz n 0 (-1) 0 f.body).map Im.pair=f.xy:=u9 _ _ _ _ _ _ _ _
def JB (l:List It):Nat→Int→Int
 | 0,_=>0
 | n+1,id=>match l[n]? with
  | none=>0
  | some x=>if x.s.id != id then JB l n id else if O7 l n x.bS != 0 then O7 l n x.bS else JB l n id
end Go.Abs

/-! Jm1 -/

namespace Go.Abs
set_option maxRecDepth 8000
open Go.Proofs
theorem JC : ∀ (l:List Pc) (n:Nat) (h:Sh),h.lo.length=n→h.hi.length=n→oF h.L.length ((l.map fun f=>Sm.dh f.body).flatten)→
 ∃ lo hi,Sh.go n h l = ⟨h.L++Dx n l,h.lo++lo,h.hi++hi⟩∧lo.length=l.length∧hi.length=l.length∧
  ∀ (i:Nat) (f:Pc),l[i]? = some f→∃ a e:List Im,lo[i]? = some (((h.L++a).length:Int)+1)∧hi[i]? = some (((h.L++a++Sm.iz ((n+i:Nat):Int) 0 (-1) 0 f.body).length:Int)+1)∧Dx n l=a++Sm.iz ((n+i:Nat):Int) 0 (-1) 0 f.body++e
 | [],n,h,hl,hh,_=>⟨[],[],by simp [Sh.go,Dx],rfl,rfl,fun i f h=>by simp at h⟩
 | f::l,n,h,hl,hh,hi=>by
  simp only [List.map_cons,List.flatten_cons]at hi
  simp only [Sh.go,Dx]
  have e1:=xx (n:Int) 0 (-1) 0 h.L f.body hi.left
  obtain⟨lo,gF,h2,h3,h4,h5⟩:=JC l (n+1) ⟨Im.rows (n:Int) 0 (-1) 0 h.L f.body,h.lo++ [(h.L.length:Int)+1],h.hi++ [((Im.rows (n:Int) 0 (-1) 0 h.L f.body).length:Int)+1]⟩ (by simp [hl]) (by simp [hh]) (by
   show oF (Im.rows (n:Int) 0 (-1) 0 h.L f.body).length _
   rw [e1,List.length_append,HD];exact hi.right)
  refine⟨((h.L.length:Int)+1)::lo,(((Im.rows (n:Int) 0 (-1) 0 h.L f.body).length:Int)+1)::gF, ?_,by simp [h3],by simp [h4],fun i g gF=> ?_⟩
  ·rw [h2,e1];simp
  ·cases i with
   | zero=>
    simp only [List.getElem?_cons_zero,Option.some.injEq]at gF
    subst gF
    exact⟨[],Dx (n+1) l,by simp,by rw [e1];simp,by simp⟩
   | succ i=>
    simp only [List.getElem?_cons_succ]at gF
    obtain⟨a,e,g1,g2,g3⟩:=h5 i g gF
    have en:n+1+i=n+(i+1):=by omega
    rw [en]at g2 g3
    refine⟨Sm.iz n 0 (-1) 0 f.body++a,e, ?_, ?_,by rw [g3];simp⟩
    ·rw [List.getElem?_cons_succ,g1,e1];simp
    ·rw [List.getElem?_cons_succ,g2,e1];simp
theorem ZP {p:Pg} (hb:p.may=true) {i:Nat} {f:Pc} (hf:p.procs[i]? = some f) (hs:Pc.aW p.procs<1000000000) (s:St) :
 aD Tryz.prog gi [.dI (gO p) 0, .int .i64 (i:Int)] s (.slice .shared 17 ((Sm.iz (i:Int) 0 (-1) 0 f.body).map eO)) s:=by
 obtain⟨lo,hi,h1,h2,h3,h4⟩:=JC p.procs 0 ⟨[],[],[]⟩ rfl rfl (WA hb)
 obtain⟨a,e,g1,g2,g3⟩:=h4 i f hf
 simp only [Nat.zero_add,List.nil_append]at g1 g2 g3 h1
 refine Zl hs (a:=a) (e:=e) ?_ ?_ ?_ s
 ·show(Sh.go 0 ⟨[],[],[]⟩ p.procs).lo[i]? = _
  rw [h1];exact g1
 ·show(Sh.go 0 ⟨[],[],[]⟩ p.procs).hi[i]? = _
  rw [h1];exact g2
 ·show(Sh.go 0 ⟨[],[],[]⟩ p.procs).L=_
  rw [h1];exact g3
theorem aD.alw {P:Program} {f:FuncId} {pre post:List D} {rows kI:List (List D)} {z z' k k':Nat} {b:Bool} (h:aD P f (pre++ .slice (.tok 0) z rows::post) ⟨[],[some k]⟩ (.tuple [.slice (.tok 0) z' kI, .bool b]) ⟨[],[some k']⟩)
 (hp:D.bJ 0 0 pre=true) (ha:D.bJ 0 0 post=true) (hw:D.iZ 0 0 rows=true) (Nu:D.iZ 0 0 kI=true)
 {s:St} {t:Nat} (ht:s.aC[t]? = some (some k)):aD P f (pre++ .slice (.tok t) z rows::post) s (.tuple [.slice (.tok t) z' kI, .bool b]) ⟨s.aA,s.aC.set t (some k')⟩:=by
 refine eg.frame [] [t] h (by simp) (by simp) (by simp) (by simpa using (List.getElem?_eq_some_iff.1 ht).1) rfl (fun i o' ds e1 e2=>by simp at e1) rfl (fun i t' e1=> ?_)
  ?_ ?_ ?_
 ·cases i with
  | zero=>simp at e1;subst e1;simp [ht]
  | succ i=>simp at e1
 ·have h1:=ff [] [t] _ hp
  have h2:=ff [] [t] _ ha
  rw [fC]at h1 h2
  simp [fC,D.dK,Tag.dK,h1,h2,iP _ _ _ hw]
 ·have h1:=gI (n':=0) (m':=1) (Nat.le_refl 0) (Nat.zero_le 1) _ hp
  have h2:=gI (n':=0) (m':=1) (Nat.le_refl 0) (Nat.zero_le 1) _ ha
  rw [yD]at h1 h2 ⊢
  simp only [List.length_nil,List.length_cons,List.all_append,h1,Bool.true_and,List.all_cons,h2,Bool.and_true,D.ok,Tag.ok,mA (Nat.zero_le 0) (Nat.zero_le 1) _ hw]
  rfl
 ·rintro _ _ ⟨rfl,rfl⟩
  refine⟨by simp [D.back,D.dK,D.fV,Tag.dK,jE,iP _ _ _ Nu], ?_⟩
  simp [St.back,jJ]
theorem ZQ {seen l:List ay} (hl:seen.length+l.length<1000000000):aD Tryz.prog oN [.slice (.tok 0) 1 (seen.map encStr), .slice .shared 1 (l.map encStr)] ⟨[],[some seen.length]⟩
 (.tuple [.slice (.tok 0) 1 ((hO seen l).1.map encStr), .bool (hO seen l).2]) ⟨[],[some (hO seen l).1.length]⟩:=by
 generalize hR:hO seen l=R
 refine aD.go E4 rfl fun B Q hB hQ=> ?_
 have⟨hP,hY,hZ,gA⟩:=bw
 repeat' (first
 | simp only [go_sem,hP,hY,hZ,gA]
 | (with_reducible refine aF hQ ?_;simp only [az,aB,Option.some.injEq,exists_eq_left',go_sem,hP,hY,hZ,gA];repeat' (first | exact Ok.out | with_reducible refine aG ?_ ?_ | (simp;done))))
 refine cM 0 1 (bj.ind (ι:=List ay×Nat×List ay×Nat) (fun i=>l.drop i.2.1=i.1∧hO i.2.2.1 i.1=R∧i.2.2.2=i.2.2.1.length∧i.2.2.1.length+i.1.length<1000000000) (fun i=>i.1.length)
  (fun i=> [(0, .slice (.tok 0) 1 (i.2.2.1.map encStr)),(8, .slice .shared 1 (l.map encStr)),(9, .int .i64 (l.length:Int)),(10, .int .i64 (i.2.1:Int))]) (fun i=>⟨[],[some i.2.2.2]⟩) ?_ (l,0,seen,seen.length) ⟨rfl,hR,rfl,hl⟩)
 clear hR
 rintro⟨rest,k,out,n⟩ ⟨h1,h2,h3,h4⟩ IH
 dsimp only at h1 h2 h3 h4
 subst h3
 cases rest with
 | nil=>
  have hP:=drop_nil h1
  simp only [hO]at h2
  subst h2
  repeat' (first
 | simp only [go_sem,hP,hY,hZ,gA]
 | (with_reducible refine aF hQ ?_;simp only [az,aB,Option.some.injEq,exists_eq_left',go_sem,hP,hY,hZ,gA];repeat' (first | exact Ok.out | with_reducible refine aG ?_ ?_ | (simp;done))))
 | cons x rest=>
  obtain⟨hY,g2,hP,g4⟩:=drop_cons h1
  have cz:k<4611686018427387904:=by omega
  simp only [List.length_cons]at h4
  have hZ:(out.length+1)*17≤bx:=by unfold bx;omega
  have Es:=fun g s=>iI (l:=out) (by omega) x g s
  simp only [hO]at h2
  rcases Bool.eq_false_or_eq_true (dW out x)with c1 | c1
  ·simp only [c1,if_true]at h2
   subst h2
   repeat' (first
 | simp only [go_sem,hP,hY,hZ,gA,c1]
 | (with_reducible refine CU (Es _ _) ?_)
 | (with_reducible refine aF hQ ?_;simp only [az,aB,Option.some.injEq,exists_eq_left',go_sem,hP,hY,hZ,gA];repeat' (first | exact Ok.out | with_reducible refine aG ?_ ?_ | (simp;done))))
  ·simp only [c1,Bool.false_eq_true,if_false]at h2
   repeat' (first
 | simp only [go_sem,hP,hY,hZ,gA,c1]
 | (with_reducible refine CU (Es _ _) ?_)
 | (with_reducible refine aF hQ ?_;simp only [az,aB,Option.some.injEq,exists_eq_left',go_sem,hP,hY,hZ,gA];repeat' (first | exact Ok.out | with_reducible refine aG ?_ ?_ | (simp;done))))
   refine eo 0 1 ?_ ?_ (IH (rest,k+1,out++ [x],out.length+1) ⟨g2,h2,by simp,by simp;omega⟩ (Nat.lt_succ_self _))
   ·(simp only [go_sem,hP,hY,hZ,gA,aN cz,List.map_append,List.map_cons,List.map_nil,encStr];try exact bQ)
   ·(simp only [go_sem,hP,hY,hZ,gA,aN cz,List.map_append,List.map_cons,List.map_nil,encStr];try exact bQ)
theorem O9 {seen l:List ay} (hl:seen.length+l.length<1000000000) {s:St} {t:Nat} (ht:s.aC[t]? = some (some seen.length)):aD Tryz.prog oN [.slice (.tok t) 1 (seen.map encStr), .slice .shared 1 (l.map encStr)] s
 (.tuple [.slice (.tok t) 1 ((hO seen l).1.map encStr), .bool (hO seen l).2]) ⟨s.aA,s.aC.set t (some (hO seen l).1.length)⟩:=
 (ZQ hl).alw (pre:= []) (post:= [_]) rfl (by simp [D.bJ,D.ok,Tag.ok,eD]) (eD _) (eD _) ht
end Go.Abs

/-! Jm2 -/

namespace Go.Abs
set_option maxRecDepth 8000
open Go.Proofs
theorem Sr (x:Im):(eO x)[2]? = some (.slice .shared 1 (x.s.labels.map encStr)):=nd rfl
theorem Pa (x:Im):(eO x)[3]? = some (.str x.s.name):=nd rfl
attribute [go_sem] Sr Pa
def qp (fin:List ay) (label:ay):List Sm→Int×Bool
 | []=>if dW fin label then(-1,true)else(0,false)
 | v::l=>if dW v.labels label then(v.id,true)else qp fin label l
theorem Eu (fin:List ay) (label:ay) : ∀ l:List Sm,(qp fin label l).2=dW (gq l++fin) label
 | []=>by simp only [qp,gq,List.nil_append];split <;> simp_all
 | v::l=>by
  simp only [qp,gq,List.append_assoc]
  have h:=Eu fin label l
  rw [Bool.eq_iff_iff,fH]at h
  split
  ·rename_i c
   exact((fH _ _).2 (List.mem_append.2 (.inl ((fH _ _).1 c)))).symm
  ·rename_i c
   have:label∉v.labels:=fun m=>c ((fH _ _).2 m)
   rw [Bool.eq_iff_iff,h,fH]
   exact⟨fun m=>List.mem_append.2 (.inr m),fun m=>(List.mem_append.1 m).resolve_left this⟩
theorem HE {p:Pg} {v:Sm} (ho:p.jX) {f:Pc} (hf:f∈p.procs) (hv:v∈Sm.dh f.body):v.labels.length≤900000:=by
 have key : ∀ n:Nat,(∀ s:Sm,s.pre.length≤n→∀ v∈s.pre,v.labels.length≤s.size)∧(∀ l:List Sm,(Sm.dh l).length≤n→∀ v∈Sm.dh l,v.labels.length≤Sm.aW l):=by
  intro n
  induction n with
  | zero=>
   refine⟨fun s h=>by rw [Sm.wD]at h;simp at h,fun l h v m=> ?_⟩
   have:=List.eq_nil_of_length_eq_zero (Nat.le_zero.1 h)
   rw [this]at m;cases m
  | succ n ih=>
   have h1 : ∀ s:Sm,s.pre.length≤n+1→∀ v∈s.pre,v.labels.length≤s.size:=by
    intro s h v m
    rw [Sm.wD]at h m
    simp only [List.length_cons,List.length_append]at h
    obtain⟨id,kind,labels,name,proc,x,has,args,aY,aT⟩:=s
    simp only [Sm.size]
    rcases List.mem_cons.1 m with rfl | m
    ·dsimp only;omega
    ·rcases List.mem_append.1 m with m | m
     ·have:=ih.2 aY (by dsimp only at h;omega) v m;omega
     ·have:=ih.2 aT (by dsimp only at h;omega) v m;omega
   refine⟨h1,fun l=> ?_⟩
   induction l with
   | nil=>intro _ v m;cases m
   | cons s l GM=>
    intro h v m
    simp only [Sm.dh,List.length_append]at h
    simp only [Sm.dh]at m
    simp only [Sm.aW]
    rcases List.mem_append.1 m with m | m
    ·have:=h1 s (by omega) v m;omega
    ·have:=GM (by omega) v m;omega
 have h1:=(key (Sm.dh f.body).length).2 f.body (Nat.le_refl _) v hv
 have h2:=Pc.bW hf
 have h3:=ho.procs.2.1
 simp only [Pc.size]at h2
 omega
theorem Ev {p:Pg} (ho:p.jX) {f:Pc} (hf:f∈p.procs):f.fin.length≤900000:=by
 have h2:=Pc.bW hf
 have h3:=ho.procs.2.1
 simp only [Pc.size]at h2
 omega
theorem Ct {p:Pg} (ho:p.jX) {f:Pc} (hf:f∈p.procs):(Sm.dh f.body).length≤900000:=by
 rw [← xw]
 have:=kl f.body
 have h2:=Pc.bW hf
 have h3:=ho.procs.2.1
 simp only [Pc.size]at h2
 omega
theorem alx {p:Pg} (ho:p.jX) (hb:p.may=true) {i:Nat} {f:Pc} (hf:p.procs[i]? = some f) (label:ay) (s:St) :
 aD Tryz.prog p9 [.dI (gO p) 0, .int .i64 (i:Int), .str label] s (.tuple [.int .i64 (qp f.fin label (Sm.dh f.body)).1, .bool (qp f.fin label (Sm.dh f.body)).2]) s:=by
 refine aD.pure ?_ (by simp [D.bJ,D.ok,xi]) rfl s
 obtain⟨tf,sy,x4⟩:=ho.procs
 have x5:=List.mem_of_getElem? hf
 have Co:=fun s=>ZP hb hf (by omega) s
 have vL:=wL (i:Int) 0 (-1) 0 f.body
 have HF:=Ct ho x5
 have aly:=Ev ho x5
 have AS:=fun s=>qi (l:=f.fin) (by omega) label s
 have pB:i<p.procs.length:=(List.getElem?_eq_some_iff.1 hf).1
 generalize hI:Sm.iz (i:Int) 0 (-1) 0 f.body=I at *
 have hIl:I.length≤900000:=by rw [← vL,List.length_map]at HF;exact HF
 obtain⟨R,hR⟩ : ∃ R,qp f.fin label (Sm.dh f.body)=R:=⟨_,rfl⟩
 rw [hR]
 rw [← vL]at hR
 unfold S0
 refine aD.go An rfl fun B Q hB hQ=> ?_
 have⟨hP,hY,hZ,gA⟩:=bw
 repeat' (first
 | simp only [go_sem,hP,hY,hZ,gA]
 | (with_reducible refine CU (Co _) ?_)
 | (with_reducible refine aF hQ ?_;simp only [az,aB,Option.some.injEq,exists_eq_left',go_sem,hP,hY,hZ,gA];repeat' (first | exact Ok.out | with_reducible refine aG ?_ ?_ | (simp;done))))
 refine cM 0 0 (bj.ind (ι:=List Im×Nat) (fun j=>I.drop j.2=j.1∧qp f.fin label (j.1.map Im.s)=R) (fun j=>j.1.length)
  (fun j=> [(0, .dI (gO p) 0),(1, .int .i64 (i:Int)),(2, .str label),(12, .slice .shared 17 (I.map eO)),(13, .int .i64 (I.length:Int)),(14, .int .i64 (j.2:Int))]) (fun j=>⟨[],[]⟩) ?_ (I,0) ⟨rfl,hR⟩)
 clear hR
 rintro⟨rest,k⟩ ⟨h1,h2⟩ IH
 dsimp only at h1 h2
 cases rest with
 | nil=>
  have hP:=drop_nil h1
  simp only [List.map_nil,qp]at h2
  rcases Bool.eq_false_or_eq_true (dW f.fin label)with c1 | c1
  ·simp only [c1,if_true]at h2
   subst h2
   repeat' (first
 | simp only [go_sem,hP,hY,hZ,gA,qP,hf,c1]
 | (with_reducible refine CU (AS _) ?_)
 | (with_reducible refine aF hQ ?_;simp only [az,aB,Option.some.injEq,exists_eq_left',go_sem,hP,hY,hZ,gA];repeat' (first | exact Ok.out | with_reducible refine aG ?_ ?_ | (simp;done))))
  ·simp only [c1,Bool.false_eq_true,if_false]at h2
   subst h2
   repeat' (first
 | simp only [go_sem,hP,hY,hZ,gA,qP,hf,c1]
 | (with_reducible refine CU (AS _) ?_)
 | (with_reducible refine aF hQ ?_;simp only [az,aB,Option.some.injEq,exists_eq_left',go_sem,hP,hY,hZ,gA];repeat' (first | exact Ok.out | with_reducible refine aG ?_ ?_ | (simp;done))))
 | cons a rest=>
  obtain⟨hY,g2,hP,g4⟩:=drop_cons h1
  have cz:k<4611686018427387904:=by omega
  have Eg:a.s∈Sm.dh f.body:=by rw [← vL];exact List.mem_map_of_mem (List.mem_of_getElem? hY)
  have xP:=fun s=>qi (l:=a.s.labels) (by have:=HE ho x5 Eg;omega) label s
  simp only [List.map_cons,qp]at h2
  rcases Bool.eq_false_or_eq_true (dW a.s.labels label)with c1 | c1
  ·simp only [c1,if_true]at h2
   subst h2
   repeat' (first
 | simp only [go_sem,hP,hY,hZ,gA,c1]
 | (with_reducible refine CU (xP _) ?_)
 | (with_reducible refine aF hQ ?_;simp only [az,aB,Option.some.injEq,exists_eq_left',go_sem,hP,hY,hZ,gA];repeat' (first | exact Ok.out | with_reducible refine aG ?_ ?_ | (simp;done))))
  ·simp only [c1,Bool.false_eq_true,if_false]at h2
   repeat' (first
 | simp only [go_sem,hP,hY,hZ,gA,c1]
 | (with_reducible refine CU (xP _) ?_)
 | (with_reducible refine aF hQ ?_;simp only [az,aB,Option.some.injEq,exists_eq_left',go_sem,hP,hY,hZ,gA];repeat' (first | exact Ok.out | with_reducible refine aG ?_ ?_ | (simp;done))))
   refine eo 0 0 ?_ ?_ (IH (rest,k+1) ⟨g2,h2⟩ (Nat.lt_succ_self _))
   ·(simp only [go_sem,hP,hY,hZ,gA,aN cz];try exact bQ)
   ·(simp only [go_sem,hP,hY,hZ,gA,aN cz];try exact bQ)
theorem WB {p:Pg} (ho:p.jX) (hb:p.may=true) {i:Nat} {f:Pc} (hf:p.procs[i]? = some f) (m:Im) (hm:m.proc=(i:Int)) (s:St) :
 aD Tryz.prog tx [.dI (gO p) 0, .agg (eO m)] s (.bool (u7 f.labels m.s m.loop)) s:=by
 refine aD.pure ?_ (by simp [D.bJ,D.ok,xi,LX]) rfl s
 have sn:=fun s=>alx ho hb hf m.s.name s
 have ZR:=Eu f.fin m.s.name (Sm.dh f.body)
 rw [← hm]at sn
 obtain⟨A,hA⟩ : ∃ A,qp f.fin m.s.name (Sm.dh f.body)=A:=⟨_,rfl⟩
 rw [hA]at sn ZR
 obtain⟨R,hR⟩ : ∃ R,u7 f.labels m.s m.loop=R:=⟨_,rfl⟩
 rw [hR]
 unfold u7 Pc.labels at hR
 unfold S0
 rcases Bool.eq_false_or_eq_true (m.s.kind==7)with c1 | c1
 ·simp only [c1,Bool.true_or,if_true]at hR
  subst hR
  refine aD.go og rfl fun B Q hB hQ=> ?_
  have⟨hP,hY,hZ,gA⟩:=bw
  repeat' (first
 | simp only [go_sem,hP,hY,hZ,gA,c1]
 | (with_reducible refine aF hQ ?_;simp only [az,aB,Option.some.injEq,exists_eq_left',go_sem,hP,hY,hZ,gA];repeat' (first | exact Ok.out | with_reducible refine aG ?_ ?_ | (simp;done))))
 rcases Bool.eq_false_or_eq_true (m.s.kind==8)with c2 | c2
 ·simp only [c1,c2,Bool.or_true,if_true]at hR
  subst hR
  refine aD.go og rfl fun B Q hB hQ=> ?_
  have⟨hP,hY,hZ,gA⟩:=bw
  repeat' (first
 | simp only [go_sem,hP,hY,hZ,gA,c1,c2]
 | (with_reducible refine aF hQ ?_;simp only [az,aB,Option.some.injEq,exists_eq_left',go_sem,hP,hY,hZ,gA];repeat' (first | exact Ok.out | with_reducible refine aG ?_ ?_ | (simp;done))))
 rcases Bool.eq_false_or_eq_true (m.s.kind==10)with c3 | c3
 ·simp only [c1,c2,c3,Bool.or_self,Bool.false_eq_true,if_false,if_true, ← ZR]at hR
  subst hR
  refine aD.go og rfl fun B Q hB hQ=> ?_
  have⟨hP,hY,hZ,gA⟩:=bw
  repeat' (first
 | simp only [go_sem,hP,hY,hZ,gA,c1,c2,c3]
 | (with_reducible refine CU (sn _) ?_)
 | (with_reducible refine aF hQ ?_;simp only [az,aB,Option.some.injEq,exists_eq_left',go_sem,hP,hY,hZ,gA];repeat' (first | exact Ok.out | with_reducible refine aG ?_ ?_ | (simp;done))))
 ·simp only [c1,c2,c3,Bool.or_self,Bool.false_eq_true,if_false]at hR
  subst hR
  refine aD.go og rfl fun B Q hB hQ=> ?_
  have⟨hP,hY,hZ,gA⟩:=bw
  repeat' (first
 | simp only [go_sem,hP,hY,hZ,gA,c1,c2,c3]
 | (with_reducible refine aF hQ ?_;simp only [az,aB,Option.some.injEq,exists_eq_left',go_sem,hP,hY,hZ,gA];repeat' (first | exact Ok.out | with_reducible refine aG ?_ ?_ | (simp;done))))
end Go.Abs

/-! Jm3 -/

namespace Go.Abs
set_option maxRecDepth 8000
open Go.Proofs
theorem WC {p:Pg} (h:p.jX) (jb:(p.scope.1==0)=true) (s:St):aD Tryz.prog pZ [.agg (cd p)] s (.dI (gO p) 0) s:=by
 refine aD.pure ?_ (by simp [D.bJ,D.ok,iR]) (by simp [D.ok,xi]) s
 obtain⟨tf,sy,x4⟩:=h.procs
 have sk:=fun s=>tV h s
 have dV:=fun s=>Cb (p:=p) (by omega) s
 have b0:(p.scope.1 != 0) = !(p.scope.1==0):=rfl
 rw [jb]at b0
 unfold S0
 refine aD.go we rfl fun B Q hB hQ=> ?_
 have⟨hP,hY,hZ,gA⟩:=bw
 repeat' (first
 | simp only [go_sem,hP,hY,hZ,gA,b0,Bool.not_true]
 | (with_reducible refine CU (sk _) ?_)
 | (with_reducible refine CU (dV _) ?_)
 | (with_reducible refine aF hQ ?_;simp only [az,aB,Option.some.injEq,exists_eq_left',go_sem,hP,hY,hZ,gA];repeat' (first | exact Ok.out | with_reducible refine aG ?_ ?_ | (simp;done))))
theorem WD {p:Pg} (h:p.jX) (jb:(p.scope.1==0)=false) (s:St):aD Tryz.prog pZ [.agg (cd p)] s .e9 s:=by
 refine aD.pure ?_ (by simp [D.bJ,D.ok,iR]) rfl s
 have sk:=fun s=>tV h s
 have b0:(p.scope.1 != 0) = !(p.scope.1==0):=rfl
 rw [jb]at b0
 unfold S0
 refine aD.go we rfl fun B Q hB hQ=> ?_
 have⟨hP,hY,hZ,gA⟩:=bw
 repeat' (first
 | simp only [go_sem,hP,hY,hZ,gA,b0,Bool.not_false]
 | (with_reducible refine CU (sk _) ?_)
 | (with_reducible refine aF hQ ?_;simp only [az,aB,Option.some.injEq,exists_eq_left',go_sem,hP,hY,hZ,gA];repeat' (first | exact Ok.out | with_reducible refine aG ?_ ?_ | (simp;done))))
mutual
theorem Ss {pr up next loop:Int} : ∀ (s:Sm) (m:Im),m∈s.pH pr up next loop→m.proc=pr
 | ⟨id,kind,labels,name,pc,x,has,args,aY,aT⟩,m,h=>by
  simp only [Sm.pH]at h
  rcases List.mem_cons.1 h with rfl | h
  ·rfl
  ·rcases List.mem_append.1 h with h | h
   ·exact va aY m h
   ·exact va aT m h
theorem va {pr up next loop:Int} : ∀ (l:List Sm) (m:Im),m∈Sm.iz pr up next loop l→m.proc=pr
 | s::l,m,h=>by
  simp only [Sm.iz]at h
  rcases List.mem_append.1 h with h | h
  ·exact Ss s m h
  ·exact va l m h
end
theorem vQ : ∀ a b:List Sm,gq (a++b)=gq a++gq b
 | [],b=>rfl
 | v::a,b=>by simp only [List.cons_append,gq,vQ a b,List.append_assoc]
mutual
theorem I1 : ∀ s:Sm,(gq s.pre).length≤s.size
 | ⟨id,kind,labels,name,pc,x,has,args,aY,aT⟩=>by
  have:=qq aY;have:=qq aT
  simp only [Sm.pre,gq,vQ,List.length_append,Sm.size];omega
theorem qq : ∀ l:List Sm,(gq (Sm.dh l)).length≤Sm.aW l
 | []=>Nat.le_refl _
 | s::l=>by
  have:=I1 s;have:=qq l
  simp only [Sm.dh,vQ,List.length_append,Sm.aW];omega
end
theorem Pb (seen l:List ay):(hO seen l).1.length≤seen.length+l.length:=(Et l seen).2
theorem Sv {p:Pg} (h:p.jX) (s:St):aD Tryz.prog tu [.agg (cd p)] s (.agg [.int .i64 p.jump.1, .int .i64 p.jump.2]) s:=by
 refine aD.pure ?_ (by simp [D.bJ,D.ok,iR]) rfl s
 obtain⟨tf,sy,x4⟩:=h.procs
 obtain⟨R,hR⟩ : ∃ R,p.jump=R:=⟨_,rfl⟩
 rw [hR]
 unfold Pg.jump at hR
 unfold S0
 rcases Bool.eq_false_or_eq_true (p.scope.1==0)with jb | jb
 case inr=>
  have hs:=fun s=>WD h jb s
  simp only [jb,Bool.false_eq_true,if_false]at hR
  subst hR
  refine aD.go wb rfl fun B Q hB hQ=> ?_
  have⟨hP,hY,hZ,gA⟩:=bw
  repeat' (first
 | simp only [go_sem,hP,hY,hZ,gA]
 | (with_reducible refine CU (hs _) ?_)
 | (with_reducible refine aF hQ ?_;simp only [az,aB,Option.some.injEq,exists_eq_left',go_sem,hP,hY,hZ,gA];repeat' (first | exact Ok.out | with_reducible refine aG ?_ ?_ | (simp;done))))
 have hs:=fun s=>WC h jb s
 have hb:=Ei jb
 simp only [jb,if_true]at hR
 refine aD.go wb rfl fun B Q hB hQ=> ?_
 have⟨hP,hY,hZ,gA⟩:=bw
 repeat' (first
 | simp only [go_sem,hP,hY,hZ,gA]
 | (with_reducible refine CU (hs _) ?_)
 | (with_reducible refine aF hQ ?_;simp only [az,aB,Option.some.injEq,exists_eq_left',go_sem,hP,hY,hZ,gA];repeat' (first | exact Ok.out | with_reducible refine aG ?_ ?_ | (simp;done))))
 refine cM 2 0 (bj.ind (ι:=List Pc×Nat) (fun i=>p.procs.drop i.2=i.1∧wM 7 (sU i.1)=R) (fun i=>i.1.length)
  (fun i=> [(1, .ptr 0 0),(2, .ptr 1 0),(3, .dI (gO p) 0),(16, .slice .shared 5 (p.procs.map cA)),(17, .int .i64 (p.procs.length:Int)),(18, .int .i64 (i.2:Int))]) (fun i=>⟨[cd p,[.int .i64 0, .int .i64 0]],[]⟩) ?_ (p.procs,0) ⟨rfl,hR⟩)
 clear hR
 rintro⟨rest,k⟩ ⟨h1,hR⟩ IH
 dsimp only at h1 hR
 cases rest with
 | nil=>
  have hP:=drop_nil h1
  simp only [sU,wM]at hR
  subst hR
  repeat' (first
 | simp only [go_sem,hP,hY,hZ,gA]
 | (with_reducible refine aF hQ ?_;simp only [az,aB,Option.some.injEq,exists_eq_left',go_sem,hP,hY,hZ,gA];repeat' (first | exact Ok.out | with_reducible refine aG ?_ ?_ | (simp;done))))
 | cons f rest=>
  obtain⟨hY,g2,hP,g4⟩:=drop_cons h1
  have cz:k<4611686018427387904:=by omega
  have x5:=List.mem_of_getElem? hY
  have Co:=fun s=>ZP hb hY (by omega) s
  have vL:=wL (k:Int) 0 (-1) 0 f.body
  have AR:=Sq (k:Int) f
  have LW:=fun m=>va (pr:=(k:Int)) (up:=0) (next:= -1) (loop:=0) f.body m
  have HF:=Ct h x5
  have aly:=Ev h x5
  have ZS:(gq (Sm.dh f.body)).length≤900000:=by
   have h1:=qq f.body
   have h2:=Pc.bW x5
   simp only [Pc.size]at h2
   omega
  rw [← vL]at ZS
  generalize hI:Sm.iz (k:Int) 0 (-1) 0 f.body=I at *
  have hIl:I.length≤900000:=by rw [← vL,List.length_map]at HF;exact HF
  simp only [sU, ← AR]at hR
  obtain⟨J,hJ⟩ : ∃ J,qo f.labels f.fin [] (I.map Im.pair)=J:=⟨_,rfl⟩
  rw [hJ]at hR
  have hld:=fun(m:Im) (hm:m∈I) s=>WB h hb hY m (LW m hm) s
  repeat' (first
 | simp only [go_sem,hP,hY,hZ,gA]
 | (with_reducible refine CU (Co _) ?_)
 | (with_reducible refine aF hQ ?_;simp only [az,aB,Option.some.injEq,exists_eq_left',go_sem,hP,hY,hZ,gA];repeat' (first | exact Ok.out | with_reducible refine aG ?_ ?_ | (simp;done))))
  refine bj.nT 6 1 rfl ?_
  simp only [go_sem,hP,hY,hZ,gA]
  refine cM 3 1 (bj.ind (ι:=List Im×Nat×List ay×Nat) (fun i=>I.drop i.2.1=i.1∧qo f.labels f.fin i.2.2.1 (i.1.map Im.pair)=J∧i.2.2.2=i.2.2.1.length∧i.2.2.1.length+(gq (i.1.map Im.s)).length≤900000) (fun i=>i.1.length)
   (fun i=> [(1, .ptr 0 0),(2, .ptr 1 0),(3, .dI (gO p) 0),(5, .ptr 2 0),(6, .slice (.tok 0) 1 (i.2.2.1.map encStr)),(16, .slice .shared 5 (p.procs.map cA)),(17, .int .i64 (p.procs.length:Int)),(18, .int .i64 (k:Int)),
    (25, .slice .shared 17 (I.map eO)),(26, .int .i64 (I.length:Int)),(27, .int .i64 (i.2.1:Int))]) (fun i=>⟨[cd p,[.int .i64 0, .int .i64 0],cA f],[some i.2.2.2]⟩) ?_ (I,0,[],0) ⟨rfl,hJ,rfl,by simpa using ZS⟩)
  clear hJ
  rintro⟨u6,k2,seen,n2⟩ ⟨j1,j2,j3,j4⟩ Ch
  dsimp only at j1 j2 j3 j4
  subst j3
  cases u6 with
  | nil=>
   have L7:=drop_nil j1
   simp only [List.map_nil,qo]at j2
   simp only [List.map_nil,gq,List.length_nil,Nat.add_zero]at j4
   have Ew:=fun {s:St} {t:Nat} (ht:s.aC[t]? = some (some seen.length))=>O9 (seen:=seen) (l:=f.fin) (by omega) ht
   obtain⟨P1,ZT⟩ : ∃ P1,hO seen f.fin=P1:=⟨_,rfl⟩
   rw [ZT]at j2 Ew
   rcases Bool.eq_false_or_eq_true P1.2 with c1 | c1
   ·simp only [c1,if_true]at j2
    subst j2
    simp only at hR
    repeat' (first
 | simp only [go_sem,hP,hY,hZ,gA,L7,c1,Bool.not_true]
 | (with_reducible refine CU (Ew (by with_unfolding_all rfl)) ?_)
 | (with_reducible refine aF hQ ?_;simp only [az,aB,Option.some.injEq,exists_eq_left',go_sem,hP,hY,hZ,gA];repeat' (first | exact Ok.out | with_reducible refine aG ?_ ?_ | (simp;done))))
    refine eo 2 0 ?_ ?_ (IH (rest,k+1) ⟨g2,hR⟩ (Nat.lt_succ_self _))
    ·(simp only [go_sem,hP,hY,hZ,gA,aN cz];try exact bQ)
    ·(simp only [go_sem,hP,hY,hZ,gA,aN cz];try exact bQ)
   ·simp only [c1,Bool.false_eq_true,if_false]at j2
    subst j2
    simp only [wM]at hR
    subst hR
    repeat' (first
 | simp only [go_sem,hP,hY,hZ,gA,L7,c1,Bool.not_false]
 | (with_reducible refine CU (Ew (by with_unfolding_all rfl)) ?_)
 | (with_reducible refine aF hQ ?_;simp only [az,aB,Option.some.injEq,exists_eq_left',go_sem,hP,hY,hZ,gA];repeat' (first | exact Ok.out | with_reducible refine aG ?_ ?_ | (simp;done))))
  | cons m u6=>
   obtain⟨n6,j5,wH,j6⟩:=drop_cons j1
   have rI:k2<4611686018427387904:=by omega
   have hmm:=List.mem_of_getElem? n6
   have UX:=fun s=>hld m hmm s
   simp only [List.map_cons,Im.pair,qo]at j2
   simp only [List.map_cons,gq,List.length_append]at j4
   have Ew:=fun {s:St} {t:Nat} (ht:s.aC[t]? = some (some seen.length))=>O9 (seen:=seen) (l:=m.s.labels) (by omega) ht
   have Ty:=Pb seen m.s.labels
   obtain⟨P1,ZT⟩ : ∃ P1,hO seen m.s.labels=P1:=⟨_,rfl⟩
   rw [ZT]at j2 Ew Ty
   rcases Bool.eq_false_or_eq_true P1.2 with c1 | c1
   ·rcases Bool.eq_false_or_eq_true (u7 f.labels m.s m.loop)with c2 | c2
    ·simp only [c1,c2,if_true]at j2
     repeat' (first
 | simp only [go_sem,hP,hY,hZ,gA,n6,wH,c1,c2,Bool.not_true]
 | (with_reducible refine CU (Ew (by with_unfolding_all rfl)) ?_)
 | (with_reducible refine CU (UX _) ?_)
 | (with_reducible refine aF hQ ?_;simp only [az,aB,Option.some.injEq,exists_eq_left',go_sem,hP,hY,hZ,gA];repeat' (first | exact Ok.out | with_reducible refine aG ?_ ?_ | (simp;done))))
     refine eo 3 1 ?_ ?_ (Ch (u6,k2+1,P1.1,P1.1.length) ⟨j5,j2,rfl,by dsimp only;omega⟩ (Nat.lt_succ_self _))
     ·(simp only [go_sem,hP,hY,hZ,gA,aN rI];try exact bQ)
     ·(simp only [go_sem,hP,hY,hZ,gA,aN rI];try exact bQ)
    ·simp only [c1,c2,if_true,Bool.false_eq_true,if_false]at j2
     subst j2
     simp only [wM]at hR
     subst hR
     repeat' (first
 | simp only [go_sem,hP,hY,hZ,gA,n6,wH,c1,c2,Bool.not_true,Bool.not_false]
 | (with_reducible refine CU (Ew (by with_unfolding_all rfl)) ?_)
 | (with_reducible refine CU (UX _) ?_)
 | (with_reducible refine aF hQ ?_;simp only [az,aB,Option.some.injEq,exists_eq_left',go_sem,hP,hY,hZ,gA];repeat' (first | exact Ok.out | with_reducible refine aG ?_ ?_ | (simp;done))))
   ·simp only [c1,Bool.false_eq_true,if_false]at j2
    subst j2
    simp only [wM]at hR
    subst hR
    repeat' (first
 | simp only [go_sem,hP,hY,hZ,gA,n6,wH,c1,Bool.not_false]
 | (with_reducible refine CU (Ew (by with_unfolding_all rfl)) ?_)
 | (with_reducible refine CU (UX _) ?_)
 | (with_reducible refine aF hQ ?_;simp only [az,aB,Option.some.injEq,exists_eq_left',go_sem,hP,hY,hZ,gA];repeat' (first | exact Ok.out | with_reducible refine aG ?_ ?_ | (simp;done))))
end Go.Abs

/-! Rj1 -/

namespace Go.Abs
set_option maxRecDepth 8000
open Go.Proofs
theorem Sw (x:It):(iW x)[2]? = some (.slice .shared 1 (x.s.labels.map encStr)):=nd rfl
theorem Pe (x:It):(iW x)[14]? = some (.int .i64 x.bS):=nd rfl
attribute [go_sem] Sw Pe
end Go.Abs

/-! Rj2 -/

namespace Go.Abs
set_option maxRecDepth 8000
open Go.Proofs
end Go.Abs

/-! Swap0 -/

namespace Go.Abs
def ct (a b t:ay):ay:=if t==a then b else if t==b then a else t
mutual
def Ex.swap (a b:ay):Ex→Ex
 | ⟨op,n,name,kids⟩=>⟨op,n,ct a b name,Ex.cP a b kids⟩
def Ex.cP (a b:ay):List Ex→List Ex
 | []=> []
 | x::l=>x.swap a b::Ex.cP a b l
end
def Ar.swap (a b:ay) (x:Ar):Ar:=⟨x.ref,ct a b x.name,x.x.swap a b⟩
mutual
def Sm.swap (a b:ay):Sm→Sm
 | ⟨id,kind,labels,name,proc,x,has,args,aY,aT⟩=>⟨id,kind,labels.map (ct a b),ct a b name,ct a b proc,x.swap a b,has,args.map (Ar.swap a b),Sm.cP a b aY,Sm.cP a b aT⟩
def Sm.cP (a b:ay):List Sm→List Sm
 | []=> []
 | s::l=>s.swap a b::Sm.cP a b l
end
def Pm.swap (a b:ay) (x:Pm):Pm:=⟨ct a b x.name,x.ref⟩
def Pc.swap (a b:ay) (f:Pc):Pc:=⟨ct a b f.name,f.params.map (Pm.swap a b),f.vars.map (ct a b),Sm.cP a b f.body,f.fin.map (ct a b)⟩
def Pg.swap (a b:ay) (p:Pg):Pg:=⟨p.globals.map (ct a b),p.procs.map (Pc.swap a b)⟩
end Go.Abs

/-! Swap2p -/

namespace Go.Abs
theorem zw (a b:ay) : ∀ l:List Ex,Ex.cP a b l=l.map (Ex.swap a b)
 | []=>rfl
 | x::l=>by simp only [Ex.cP,zw a b l,List.map_cons]
theorem gE (a b t:ay):ct a b (ct a b t)=t:=by
 simp only [ct,beq_iff_eq]
 by_cases h1:t=a
 ·subst h1
  rw [if_pos rfl]
  by_cases h2:b=t
  ·rw [if_pos h2];exact h2
  ·rw [if_neg h2,if_pos rfl]
 ·rw [if_neg h1]
  by_cases h2:t=b
  ·subst h2
   have e:(if t=t then a else t)=a:=if_pos rfl
   rw [e,if_pos rfl]
  ·rw [if_neg h2,if_neg h1,if_neg h2]
theorem qS (a b:ay) : ∀ l:List ay,(l.map (ct a b)).map (ct a b)=l
 | []=>rfl
 | t::l=>by simp only [List.map_cons,gE,qS a b l]
theorem ou {a b:ay} (ha:isName a=true) (hb:isName b=true) (t:ay):isName (ct a b t)=isName t:=by
 simp only [ct,beq_iff_eq]
 by_cases h1:t=a
 ·rw [if_pos h1,h1,ha,hb]
 ·rw [if_neg h1]
  by_cases h2:t=b
  ·rw [if_pos h2,h2,ha,hb]
  ·rw [if_neg h2]
theorem s5 {a b:ay} (ha:isName a=true) (hb:isName b=true) (t:ay):(ct a b t == [])=(t == []):=by
 have n0 : ∀ {s:ay},isName s=true→(s == [])=false:=by
  intro s h
  cases s with
  | nil=>simp [isName]at h
  | cons c r=>rfl
 simp only [ct,beq_iff_eq]
 by_cases h1:t=a
 ·rw [if_pos h1,h1,n0 ha,n0 hb]
 ·rw [if_neg h1]
  by_cases h2:t=b
  ·rw [if_pos h2,h2,n0 ha,n0 hb]
  ·rw [if_neg h2]
theorem qs {a b:ay} (ha:isName a=true) (hb:isName b=true) : ∀ l:List ay,c6 (l.map (ct a b))=c6 l
 | []=>rfl
 | t::l=>by simp only [List.map_cons,c6,ou ha hb,qs ha hb l]
theorem Ey (a b:ay) (l:List Ex):(Ex.cP a b l).length=l.length:=by rw [zw,List.length_map]
mutual
theorem JD {a b:ay} (ha:isName a=true) (hb:isName b=true) : ∀ x:Ex,(x.swap a b).form=x.form
 | ⟨op,n,name,kids⟩=>by
  simp only [Ex.swap,Ex.form]
  rw [Ey,ou ha hb,s5 ha hb,HG ha hb kids]
theorem HG {a b:ay} (ha:isName a=true) (hb:isName b=true) : ∀ l:List Ex,Ex.lO (Ex.cP a b l)=Ex.lO l
 | []=>rfl
 | x::l=>by simp only [Ex.cP,Ex.lO,JD ha hb x,HG ha hb l]
end
mutual
theorem pI (a b:ay) : ∀ x:Ex,(x.swap a b).depth=x.depth∧(x.swap a b).size=x.size∧((x.kP)→(x.swap a b).kP)∧(x.swap a b).swap a b=x
 | ⟨op,n,name,kids⟩=>by
  obtain⟨h1,h2,h3,h4⟩:=HH a b kids
  refine⟨?_, ?_,fun h=> ?_, ?_⟩
  ·simp only [Ex.swap,Ex.depth,h1]
  ·simp only [Ex.swap,Ex.size,h2]
  ·simp only [Ex.swap,Ex.kP]at h ⊢;exact⟨h.1,h3 h.2⟩
  ·simp only [Ex.swap,gE,h4]
theorem HH (a b:ay) : ∀ l:List Ex,Ex.fF (Ex.cP a b l)=Ex.fF l∧Ex.aW (Ex.cP a b l)=Ex.aW l∧(Ex.lD l→Ex.lD (Ex.cP a b l))∧Ex.cP a b (Ex.cP a b l)=l
 | []=>⟨rfl,rfl,fun _=>trivial,rfl⟩
 | x::l=>by
  obtain⟨h1,h2,h3,h4⟩:=HH a b l
  obtain⟨k1,k2,k3,k4⟩:=pI a b x
  refine⟨?_, ?_,fun h=> ?_, ?_⟩
  ·simp only [Ex.cP,Ex.fF,h1,k1]
  ·simp only [Ex.cP,Ex.aW,h2,k2]
  ·simp only [Ex.cP,Ex.lD]at h ⊢;exact⟨k3 h.1,h3 h.2⟩
  ·simp only [Ex.cP,h4,k4]
end
theorem HI {a b:ay} (ha:isName a=true) (hb:isName b=true) (x:Ex):(x.swap a b).may=x.may:=by unfold Ex.may;rw [(pI a b x).1,JD ha hb]
theorem JE {a b:ay} (ha:isName a=true) (hb:isName b=true) (x:Ex):(x.swap a b).none=x.none:=by
 obtain⟨op,n,name,kids⟩:=x
 simp only [Ex.swap,Ex.none]
 rw [Ey,s5 ha hb]
theorem ZU {a b:ay} (ha:isName a=true) (hb:isName b=true) (x:Ar):(x.swap a b).may=x.may:=by
 simp only [Ar.swap,Ar.may,ou ha hb,s5 ha hb,HI ha hb,JE ha hb]
theorem JF {a b:ay} (ha:isName a=true) (hb:isName b=true) : ∀ l:List Ar,Ar.dT (l.map (Ar.swap a b))=Ar.dT l
 | []=>rfl
 | x::l=>by simp only [List.map_cons,Ar.dT,ZU ha hb,JF ha hb l]
theorem Dy (a b:ay) : ∀ l:List Ar,(l.map (Ar.swap a b)).map (Ar.swap a b)=l
 | []=>rfl
 | x::l=>by
  have e:Ar.swap a b (Ar.swap a b x)=x:=by simp only [Ar.swap,gE,(pI a b x.x).2.2.2]
  simp only [List.map_cons,e,Dy a b l]
theorem Dz (a b:ay) : ∀ l:List Ar,Ar.aW (l.map (Ar.swap a b))=Ar.aW l
 | []=>rfl
 | x::l=>by simp only [List.map_cons,Ar.aW,Dz a b l,Ar.swap,(pI a b x.x).2.1]
theorem xA (a b:ay) : ∀ l:List Sm,(Sm.cP a b l).length=l.length
 | []=>rfl
 | x::l=>by simp only [Sm.cP,List.length_cons,xA a b l]
theorem ZV {a b:ay} (ha:isName a=true) (hb:isName b=true) (s:Sm):(s.swap a b).one=s.one:=by
 obtain⟨id,kind,labels,name,proc,x,has,args,aY,aT⟩:=s
 simp only [Sm.swap,Sm.one,Sm.sg,Sm.hasName,Sm.mV,qs ha hb,HI ha hb,JE ha hb,ou ha hb,s5 ha hb,JF ha hb,List.length_map,xA]
 rfl
def It.swap (a b:ay) (i:It):It:=⟨i.s.swap a b,i.deep,i.bS,i.aT⟩
mutual
theorem L9 (a b:ay) : ∀ (s:Sm) (deep bS:Int) (aT:Bool) (out:List It),iy deep bS aT (out.map (It.swap a b)) (s.swap a b)=(iy deep bS aT out s).map (It.swap a b)
 | ⟨id,kind,labels,name,proc,x,has,args,aY,e⟩,deep,bS,aT,out=>by
  have e1 : ∀ o:List It,o.map (It.swap a b)++ [(⟨Sm.swap a b ⟨id,kind,labels,name,proc,x,has,args,aY,e⟩,deep,bS,aT⟩:It)] = (o++ [(⟨⟨id,kind,labels,name,proc,x,has,args,aY,e⟩,deep,bS,aT⟩:It)]).map (It.swap a b):=by
   intro o;simp only [List.map_append,List.map_cons,List.map_nil,It.swap]
  have e2:=e1 out
  simp only [Sm.swap]at e2
  simp only [Sm.swap,iy,e2]
  rw [sW a b aY,sW a b e]
  split <;> rfl
theorem sW (a b:ay) : ∀ (l:List Sm) (deep bS:Int) (aT:Bool) (out:List It),e8 deep bS aT (out.map (It.swap a b)) (Sm.cP a b l)=(e8 deep bS aT out l).map (It.swap a b)
 | [],deep,bS,aT,out=>by simp only [Sm.cP,e8]
 | s::l,deep,bS,aT,out=>by
  simp only [Sm.cP,e8,List.length_map]
  split
  ·rw [L9 a b s,sW a b l]
  ·rfl
end
theorem WE (a b:ay) (f:Pc):(f.swap a b).flat=f.flat.map (It.swap a b):=by
 unfold Pc.flat
 rw [← sW];rfl
theorem HJ (a b:ay) : ∀ (l:List Pc) (out:List It),allM (out.map (It.swap a b)) (l.map (Pc.swap a b))=(allM out l).map (It.swap a b)
 | [],out=>by simp only [List.map_nil,allM]
 | f::l,out=>by
  simp only [List.map_cons,allM,WE]
  rw [← List.map_append,List.length_map,HJ a b l]
  split <;> rfl
theorem JG {a b:ay} (ha:isName a=true) (hb:isName b=true) : ∀ (l:List It) (n:Nat),It.dT n (l.map (It.swap a b))=It.dT n l
 | [],n=>rfl
 | i::l,n=>by
  have e:(It.swap a b i).s.id=i.s.id:=by obtain⟨⟨id,kind,labels,name,proc,x,has,args,aY,aT⟩,d,bS,e⟩:=i;rfl
  have e2:(It.swap a b i).s.one=i.s.one:=ZV ha hb i.s
  simp only [List.map_cons,It.dT,e,e2,JG ha hb l]
  rfl
theorem JH {a b:ay} (ha:isName a=true) (hb:isName b=true) : ∀ l:List Pm,Pm.dT (l.map (Pm.swap a b))=Pm.dT l
 | []=>rfl
 | x::l=>by simp only [List.map_cons,Pm.dT,Pm.swap,ou ha hb,JH ha hb l]
theorem HK {a b:ay} (ha:isName a=true) (hb:isName b=true) : ∀ l:List Pc,Pc.mI (l.map (Pc.swap a b))=Pc.mI l
 | []=>rfl
 | f::l=>by simp only [List.map_cons,Pc.mI,Pc.swap,ou ha hb,qs ha hb,JH ha hb,List.length_map,HK ha hb l]
theorem HL {a b:ay} (ha:isName a=true) (hb:isName b=true) (p:Pg):(p.swap a b).may=p.may:=by
 have e:(p.swap a b).all=p.all.map (It.swap a b):=HJ a b p.procs []
 unfold Pg.may
 rw [e,JG ha hb]
 simp only [Pg.swap,List.length_map,qs ha hb,HK ha hb]
theorem DA (a b:ay) : ∀ l:List Pm,(l.map (Pm.swap a b)).map (Pm.swap a b)=l
 | []=>rfl
 | x::l=>by simp only [List.map_cons,Pm.swap,gE,DA a b l]
mutual
theorem Sx (a b:ay) : ∀ s:Sm,(s.swap a b).size=s.size∧(s.kP→(s.swap a b).kP)∧(s.swap a b).swap a b=s
 | ⟨id,kind,labels,name,proc,x,has,args,aY,aT⟩=>by
  obtain⟨h1,h2,h3⟩:=vb a b aY
  obtain⟨k1,k2,k3⟩:=vb a b aT
  obtain⟨_,x1,x2,x3⟩:=pI a b x
  refine⟨?_,fun h=> ?_, ?_⟩
  ·simp only [Sm.swap,Sm.size,h1,k1,x1,Dz,List.length_map]
  ·simp only [Sm.swap,Sm.kP]at h ⊢
   refine⟨x2 h.1,fun y hy=> ?_,h2 h.2.2.1,k2 h.2.2.2⟩
   obtain⟨z,hz,rfl⟩:=List.mem_map.1 hy
   exact(pI a b z.x).2.2.1 (h.2.1 z hz)
  ·simp only [Sm.swap,qS,gE,x3,Dy,h3,k3]
theorem vb (a b:ay) : ∀ l:List Sm,Sm.aW (Sm.cP a b l)=Sm.aW l∧(Sm.lD l→Sm.lD (Sm.cP a b l))∧Sm.cP a b (Sm.cP a b l)=l
 | []=>⟨rfl,fun _=>trivial,rfl⟩
 | s::l=>by
  obtain⟨h1,h2,h3⟩:=vb a b l
  obtain⟨k1,k2,k3⟩:=Sx a b s
  refine⟨?_,fun h=> ?_, ?_⟩
  ·simp only [Sm.cP,Sm.aW,h1,k1]
  ·simp only [Sm.cP,Sm.lD]at h ⊢;exact⟨k2 h.1,h2 h.2⟩
  ·simp only [Sm.cP,h3,k3]
end
theorem Ma (a b:ay) (p:Pg):(p.swap a b).size=p.size∧(p.swap a b).swap a b=p:=by
 have : ∀ l:List Pc,Pc.aW (l.map (Pc.swap a b))=Pc.aW l∧(l.map (Pc.swap a b)).map (Pc.swap a b)=l:=by
  intro l
  induction l with
  | nil=>exact⟨rfl,rfl⟩
  | cons f l ih=>
   obtain⟨k1,k2,k3⟩:=vb a b f.body
   refine⟨?_, ?_⟩
   ·simp only [List.map_cons,Pc.aW,Pc.size,Pc.swap,List.length_map,k1,ih.1]
   ·simp only [List.map_cons,ih.2]
    simp only [Pc.swap,gE,DA,qS,k3]
 obtain⟨h1,h2⟩:=this p.procs
 refine⟨?_, ?_⟩
 ·simp only [Pg.swap,Pg.size,List.length_map,h1]
 ·simp only [Pg.swap,qS,h2]
end Go.Abs

/-! ToP -/

namespace Go.Abs
theorem Pf {out:List ay} {x y:ay} : y∈q9 out x↔y∈out∨y=x:=by
 unfold q9
 split
 ·rename_i e
  have:=(fH _ _).1 e
  constructor
  ·exact .inl
  ·rintro(h | rfl) <;> assumption
 ·simp
theorem tX {y:ay} : ∀ {l out:List ay},y∈qR out l↔y∈out∨y∈l
 | [],out=>by simp [qR]
 | x::l,out=>by
  simp only [qR,tX (l:=l),Pf,List.mem_cons,or_assoc]
theorem HM (p:Pg) {y:ay} : ∀ (n i:Nat) (out:List ay),y∈out→y∈lP p n i out
 | 0,i,out,h=>h
 | n+1,i,out,h=>by
  simp only [lP]
  split
  ·exact HM p n _ _ (tX.2 (.inl h))
  ·exact h
theorem HN : ∀ (l out:List ay),∃ e,qR out l=out++e
 | [],out=>⟨[],by simp [qR]⟩
 | x::l,out=>by
  obtain⟨e,h⟩:=HN l (q9 out x)
  simp only [qR,h]
  unfold q9
  split
  ·exact⟨e,rfl⟩
  ·exact⟨x::e,by simp⟩
theorem AV {p:Pg} (jb:(p.scope.1==0)=true) : ∀ (n i:Nat) (out:List ay),Good p out→n+i=p.procs.length+1→(∀ (j:Nat) (x:ay),j<i→out[j]? = some x→∀ y∈mX p x,y∈out)→
 ∀ x∈lP p n i out,∀ y∈mX p x,y∈lP p n i out
 | 0,i,out,hg,hn,hc,x,hx,y,hy=>by
  simp only [lP]at hx ⊢
  obtain⟨j,hj⟩:=List.getElem?_of_mem hx
  have:=hg.len
  have:=(List.getElem?_eq_some_iff.1 hj).1
  exact hc j x (by omega) hj y hy
 | n+1,i,out,hg,hn,hc,x,hx,y,hy=>by
  simp only [lP]at hx ⊢
  split at hx
  ·rename_i z hz
   obtain⟨g,Gi⟩:=hg.2 z (List.mem_of_getElem? hz)
   refine AV jb n (i+1) _ (hg.add fun y m=> ?_) (by omega) (fun j x hj U4 y hy=> ?_) x hx y hy
   ·unfold mX at m
    rw [Gi]at m
    exact vP jb (ph Gi).1 m
   ·obtain⟨e,he⟩:=HN (mX p z) out
    have hi:=(List.getElem?_eq_some_iff.1 hz).1
    rw [he,List.getElem?_append_left (by omega)]at U4
    rcases Nat.lt_or_ge j i with h1 | h1
    ·exact tX.2 (.inl (hc j x h1 U4 y hy))
    ·have:j=i:=by omega
     subst this
     rw [hz]at U4
     cases U4
     exact tX.2 (.inr hy)
  ·rename_i hz
   obtain⟨j,hj⟩:=List.getElem?_of_mem hx
   have h1:=(List.getElem?_eq_some_iff.1 hj).1
   have h2:=List.getElem?_eq_none_iff.1 hz
   exact hc j x (by omega) hj y hy
theorem Cu {p:Pg} {S:ay→Prop} (hS : ∀ x,S x→∀ y∈mX p x,S y) : ∀ (n i:Nat) (out:List ay),(∀ x∈out,S x)→∀ x∈lP p n i out,S x
 | 0,i,out,h,x,hx=>h x hx
 | n+1,i,out,h,x,hx=>by
  simp only [lP]at hx
  split at hx
  ·rename_i z hz
   exact Cu hS n _ _ (fun y hy=>(tX.1 hy).elim (h y) (hS z (h z (List.mem_of_getElem? hz)) y)) x hx
  ·exact h x hx
theorem Ez {p:Pg} {x:ay} : ∀ {l out:List ay},x∈oo p out l↔x∈out∨(x∈l∧x∈p.globals)
 | [],out=>by simp [oo]
 | v::l,out=>by
  simp only [oo,Ez (l:=l),List.mem_cons]
  cases e:dW p.globals v
  ·have:v∉p.globals:=fun m=>by rw [(fH _ _).2 m]at e;cases e
   simp only [Bool.false_eq_true,if_false]
   constructor
   ·rintro(h | ⟨h,k⟩)
    ·exact .inl h
    ·exact .inr ⟨.inr h,k⟩
   ·rintro(h | ⟨rfl | h,k⟩)
    ·exact .inl h
    ·exact absurd k this
    ·exact .inr ⟨h,k⟩
  ·have:v∈p.globals:=(fH _ _).1 e
   simp only [if_true,List.mem_append,List.mem_singleton]
   constructor
   ·rintro((h | rfl) | ⟨h,k⟩)
    ·exact .inl h
    ·exact .inr ⟨.inl rfl,this⟩
    ·exact .inr ⟨.inr h,k⟩
   ·rintro(h | ⟨rfl | h,k⟩)
    ·exact .inl (.inl h)
    ·exact .inl (.inr rfl)
    ·exact .inr ⟨h,k⟩
def rb:List Sm→List ay
 | []=> []
 | v::l=>v.said++rb l
theorem EA {p:Pg} {x:ay} : ∀ {l:List Sm} {out:List ay},x∈oq p out l↔x∈out∨(x∈rb l∧x∈p.globals)
 | [],out=>by simp [oq,rb]
 | v::l,out=>by
  simp only [oq,EA (l:=l),Ez,rb,List.mem_append]
  constructor
  ·rintro((h | ⟨h,k⟩) | ⟨h,k⟩)
   ·exact .inl h
   ·exact .inr ⟨.inl h,k⟩
   ·exact .inr ⟨.inr h,k⟩
  ·rintro(h | ⟨h | h,k⟩)
   ·exact .inl (.inl h)
   ·exact .inl (.inr ⟨h,k⟩)
   ·exact .inr ⟨h,k⟩
def xB (p:Pg):List ay→List ay
 | []=> []
 | n::l=>rb (jY p n)++xB p l
theorem EB {p:Pg} {x:ay} : ∀ {l:List ay},x∈xB p l↔∃ n∈l,x∈rb (jY p n)
 | []=>by simp [xB]
 | n::l=>by simp [xB,EB (l:=l)]
theorem EC {p:Pg} {x:ay} : ∀ {l out:List ay},x∈o6 p out l↔x∈out∨(x∈xB p l∧x∈p.globals)
 | [],out=>by simp [o6,xB]
 | v::l,out=>by
  simp only [o6,EC (l:=l),EA,xB,List.mem_append]
  constructor
  ·rintro((h | ⟨h,k⟩) | ⟨h,k⟩)
   ·exact .inl h
   ·exact .inr ⟨.inl h,k⟩
   ·exact .inr ⟨.inr h,k⟩
  ·rintro(h | ⟨h | h,k⟩)
   ·exact .inl (.inl h)
   ·exact .inl (.inr ⟨h,k⟩)
   ·exact .inr ⟨h,k⟩
theorem ED {p:Pg} {nm x:ay} {f:Pc} (h:p.qm nm=some f):x∈p.kH nm↔(∃ n∈p.work nm,x∈rb (jY p n))∧x∈p.globals:=by
 unfold Pg.kH
 rw [h]
 dsimp only
 rw [(iw _).2]
 unfold Pg.pj
 rw [EC,EB]
 simp only [(iw _).2,List.not_mem_nil,false_or]
end Go.Abs

/-! Al1 -/

namespace Go.Abs
set_option maxRecDepth 8000
open Go.Proofs
def ky (nm:ay) (T:List ay) (seen:List ay):List Ar→Bool
 | []=>true
 | a::l=>if a.ref then(if dW seen a.name || (a.name==nm || dW T a.name)then false else ky nm T (seen++ [a.name]) l)else ky nm T seen l
def ZW (T:List ay) (seen:List ay):List Ar→Bool
 | []=>true
 | a::l=>if a.ref then(if dW seen a.name || dW T a.name then false else ZW T (seen++ [a.name]) l)else ZW T seen l
def Sm.alC (v:Sm):List ay:=if v.name != []then [v.name]else []
theorem Sy {v:Sm} (xU:v.args.length<1000000000) {T:List ay} (hT:T.length<4611686018427387904) (s:St) :
 aD Tryz.prog qL [.agg (bd v), .slice .shared 1 (T.map encStr)] s (.bool (ky v.name T [] v.args)) s:=by
 refine aD.pure ?_ (by simp [D.bJ,D.ok,nh,Tag.ok,eD]) rfl s
 generalize hR:ky v.name T [] v.args=R
 have U5:=fun x s=>qi hT x s
 unfold S0
 refine aD.go Bg rfl fun B Q hB hQ=> ?_
 have⟨hP,hY,hZ,gA⟩:=bw
 repeat' (first
 | simp only [go_sem,hP,hY,hZ,gA]
 | (with_reducible refine aF hQ ?_;simp only [az,aB,Option.some.injEq,exists_eq_left',go_sem,hP,hY,hZ,gA];repeat' (first | exact Ok.out | with_reducible refine aG ?_ ?_ | (simp;done))))
 refine bj.nT 5 1 rfl ?_
 simp only [go_sem,hP,hY,hZ,gA]
 refine cM 1 1 (bj.ind (ι:=List Ar×Nat×List ay×Nat) (fun i=>v.args.drop i.2.1=i.1∧ky v.name T i.2.2.1 i.1=R∧i.2.2.1.length≤i.2.1∧i.2.2.2=i.2.2.1.length) (fun i=>i.1.length)
  (fun i=> [(1, .slice .shared 1 (T.map encStr)),(2, .ptr 0 0),(5, .slice (.tok 0) 1 (i.2.2.1.map encStr)),(9, .slice .shared 6 (v.args.map dR)),(10, .int .i64 (v.args.length:Int)),(11, .int .i64 (i.2.1:Int))]) (fun i=>⟨[bd v],[some i.2.2.2]⟩) ?_ (v.args,0,[],0) ⟨rfl,hR,Nat.le_refl _,rfl⟩)
 clear hR
 rintro⟨rest,k,seen,n'⟩ ⟨h1,h2,h3,h4⟩ IH
 dsimp only at h1 h2 h3 h4
 subst h4
 cases rest with
 | nil=>
  have hP:=drop_nil h1
  simp only [ky]at h2
  subst h2
  repeat' (first
 | simp only [go_sem,hP,hY,hZ,gA]
 | (with_reducible refine aF hQ ?_;simp only [az,aB,Option.some.injEq,exists_eq_left',go_sem,hP,hY,hZ,gA];repeat' (first | exact Ok.out | with_reducible refine aG ?_ ?_ | (simp;done))))
 | cons a rest=>
  obtain⟨hY,g2,hP,g4⟩:=drop_cons h1
  have cz:k<4611686018427387904:=by omega
  have hZ:(seen.length+1)*17≤bx:=by unfold bx;omega
  have pR:=fun g s=>iI (l:=seen) (by omega) a.name g s
  simp only [ky]at h2
  rcases Bool.eq_false_or_eq_true a.ref with c1 | c1
  case inr=>
   simp only [c1,Bool.false_eq_true,if_false]at h2
   repeat' (first
 | simp only [go_sem,hP,hY,hZ,gA,c1,Bool.not_false]
 | (with_reducible refine aF hQ ?_;simp only [az,aB,Option.some.injEq,exists_eq_left',go_sem,hP,hY,hZ,gA];repeat' (first | exact Ok.out | with_reducible refine aG ?_ ?_ | (simp;done))))
   refine eo 1 1 ?_ ?_ (IH (rest,k+1,seen,_) ⟨g2,h2,by dsimp only;omega,rfl⟩ (Nat.lt_succ_self _))
   ·(simp only [go_sem,hP,hY,hZ,gA,aN cz];try exact bQ)
   ·(simp only [go_sem,hP,hY,hZ,gA,aN cz];try exact bQ)
  simp only [c1,if_true]at h2
  rcases Bool.eq_false_or_eq_true (dW seen a.name)with c2 | c2
  ·simp only [c2,Bool.true_or,if_true]at h2
   subst h2
   repeat' (first
 | simp only [go_sem,hP,hY,hZ,gA,c1,c2,Bool.not_true]
 | (with_reducible refine CU (pR _ _) ?_)
 | (with_reducible refine CU (U5 _ _) ?_)
 | (with_reducible refine aF hQ ?_;simp only [az,aB,Option.some.injEq,exists_eq_left',go_sem,hP,hY,hZ,gA];repeat' (first | exact Ok.out | with_reducible refine aG ?_ ?_ | (simp;done))))
  rcases Bool.eq_false_or_eq_true (a.name==v.name)with c3 | c3
  ·simp only [c2,c3,Bool.false_or,Bool.true_or,if_true]at h2
   subst h2
   repeat' (first
 | simp only [go_sem,hP,hY,hZ,gA,c1,c2,c3,Bool.not_true]
 | (with_reducible refine CU (pR _ _) ?_)
 | (with_reducible refine CU (U5 _ _) ?_)
 | (with_reducible refine aF hQ ?_;simp only [az,aB,Option.some.injEq,exists_eq_left',go_sem,hP,hY,hZ,gA];repeat' (first | exact Ok.out | with_reducible refine aG ?_ ?_ | (simp;done))))
  rcases Bool.eq_false_or_eq_true (dW T a.name)with c4 | c4
  ·simp only [c2,c3,c4,Bool.false_or,if_true]at h2
   subst h2
   repeat' (first
 | simp only [go_sem,hP,hY,hZ,gA,c1,c2,c3,c4,Bool.not_true]
 | (with_reducible refine CU (pR _ _) ?_)
 | (with_reducible refine CU (U5 _ _) ?_)
 | (with_reducible refine aF hQ ?_;simp only [az,aB,Option.some.injEq,exists_eq_left',go_sem,hP,hY,hZ,gA];repeat' (first | exact Ok.out | with_reducible refine aG ?_ ?_ | (simp;done))))
  ·simp only [c2,c3,c4,Bool.false_or,Bool.false_eq_true,if_false]at h2
   repeat' (first
 | simp only [go_sem,hP,hY,hZ,gA,c1,c2,c3,c4,Bool.not_true]
 | (with_reducible refine CU (pR _ _) ?_)
 | (with_reducible refine CU (U5 _ _) ?_)
 | (with_reducible refine aF hQ ?_;simp only [az,aB,Option.some.injEq,exists_eq_left',go_sem,hP,hY,hZ,gA];repeat' (first | exact Ok.out | with_reducible refine aG ?_ ?_ | (simp;done))))
   refine eo 1 1 ?_ ?_ (IH (rest,k+1,seen++ [a.name],seen.length+1) ⟨g2,h2,by simp;omega,by simp⟩ (Nat.lt_succ_self _))
   ·(simp only [go_sem,hP,hY,hZ,gA,aN cz,List.map_append,List.map_cons,List.map_nil,encStr];try exact bQ)
   ·(simp only [go_sem,hP,hY,hZ,gA,aN cz,List.map_append,List.map_cons,List.map_nil,encStr];try exact bQ)
def mc (p:Pg):List Pc→List D
 | []=> []
 | f::l=> .str f.name:: .slice .shared 1 ((p.kH f.name).map encStr)::mc p l
theorem Ph (p:Pg) : ∀ l,D.bJ 0 0 (mc p l)=true
 | []=>rfl
 | f::l=>by simp only [mc,D.bJ,D.ok,Tag.ok,eD,Ph p l];rfl
theorem WG (n m:Nat) (p:Pg) (l:List Pc):D.gG n m (mc p l)=mc p l:=gU n m _ (Ph p l)
attribute [go_sem] WG
theorem HO (p:Pg) : ∀ l m,mc p (l++m)=mc p l++mc p m
 | [],m=>rfl
 | f::l,m=>by simp only [List.cons_append,mc,HO p l m]
theorem HP {p:Pg} {nm:ay} {d:D} : ∀ {l:List Pc},nm∉l.map (·.name)→vj nm d (mc p l)=some (mc p l++ [.str nm,d])
 | [],_=>rfl
 | f::l,h=>by
  simp only [List.map_cons,List.mem_cons,not_or]at h
  have:(f.name==nm)=false:=by simpa using fun e=>h.1 e.symm
  simp only [mc,vj,this,Bool.false_eq_true,if_false,HP h.2,List.cons_append]
theorem HQ {p:Pg} {nm:ay} {z:D} : ∀ {l:List Pc} {f:Pc},iX nm l=some f→wT nm z (mc p l)=some (.slice .shared 1 ((p.kH nm).map encStr))
 | g::l,f,h=>by
  simp only [iX]at h
  simp only [mc,wT]
  split at h
  ·rename_i e
   rw [if_pos e,eq_of_beq e]
  ·rename_i e
   rw [if_neg e]
   exact HQ h
theorem WH (l:List ay) : ∀ (s:List ay),wG s l=false→∀ a x b,l=a++x::b→x∉s++a:=by
 induction l with
 | nil=>intro s _ a x b e;cases a <;> cases e
 | cons y l ih=>
  intro s h a x b e
  simp only [wG]at h
  split at h
  ·cases h
  ·rename_i hy
   cases a with
   | nil=>cases e;simpa [← fH]using hy
   | cons z a=>
    cases e
    have:=ih (s++ [y]) h a x b rfl
    simpa using this
end Go.Abs

/-! Al2 -/

namespace Go.Abs
set_option maxRecDepth 8000
open Go.Proofs
theorem Sz {p:Pg} (h:(p.arity.1==0)=true):(p.scope.1==0)=true∧∀ v∈p.pre,(v.kind==4)=true→v.oj p=true:=by
 unfold Pg.arity at h
 split at h
 ·rename_i e
  refine⟨e,fun v hv hk=> ?_⟩
  have : ∀ l:List Sm,((n7 6 (AT p l)).1==0)=true→∀ v∈l,(v.kind==4)=true→v.oj p=true:=by
   intro l
   induction l with
   | nil=>intro _ v m;cases m
   | cons a l ih=>
    intro h v m hk
    simp only [AT]at h
    split at h
    ·cases h
    ·rename_i c
     rcases List.mem_cons.1 m with rfl | m
     ·simpa [hk]using c
     ·exact ih h v m hk
  exact this _ h v hv hk
 ·cases h
theorem Pj {p:Pg} {v:Sm} (h:v.oj p=true) : ∃ f,p.find v.proc=some f:=by
 unfold Sm.oj at h
 cases e:p.find v.proc with
 | some f=>exact⟨f,rfl⟩
 | none=>rw [e]at h;simp at h
def Sm.wN (p:Pg) (v:Sm):Bool:=ky v.name (p.kH v.proc) [] v.args
def EE (p:Pg):List Sm→Option Sm
 | []=>none
 | v::l=>if v.kind==4 && !(v.wN p)then some v else EE p l
def Pg.alias (p:Pg):Int×Int:=if p.arity.1==0 then n7 8 (EE p p.pre)else(1,0)
theorem HR {p:Pg} (h:p.jX) (nm:ay):(p.kH nm).length<4611686018427387904:=by
 unfold Pg.kH
 cases hs:p.qm nm with
 | none=>dsimp only;decide
 | some f=>
  obtain⟨jb,hf⟩:=zu hs
  have h1:=(HC jb hf).len
  have h2:=h.procs
  have h3:=(xu h (iJ (p.work nm)) []).2
  have h4:(iJ (p.work nm)).length*1800000≤900000*1800000:=Nat.mul_le_mul_right _ (by omega)
  have h5:(iJ (p.pj nm)).length≤(p.pj nm).length:=u5 _ _ (sS (iw _).1) fun x m=>((iw _).2 x).1 m
  dsimp only
  unfold Pg.pj at *
  simp only [List.length_nil]at h3
  omega
theorem Mb {v:Sm} (hv:v.oU):v.args.length<1000000000:=by have:=Ar.da v.args;have:=hv.2.2;omega
theorem Pk {p:Pg} (h:p.jX) (s:St):aD Tryz.prog rU [.agg (cd p)] s (.agg [.int .i64 p.alias.1, .int .i64 p.alias.2]) s:=by
 refine aD.pure ?_ (by simp [D.bJ,D.ok,iR]) rfl s
 obtain⟨tf,sy,x4⟩:=h.procs
 have sk:=fun s=>Ht h s
 have dV:=fun s=>Cb (p:=p) (by omega) s
 have hL:=(pE p).1
 have hll:=pF p
 generalize hR:p.alias=R
 simp only [Pg.alias]at hR
 unfold S0
 have b0:(p.arity.1 != 0) = !(p.arity.1==0):=rfl
 rcases Bool.eq_false_or_eq_true (p.arity.1==0)with b1 | b1
 case inr=>
  rw [b1]at b0
  simp only [b1,Bool.false_eq_true,if_false]at hR
  subst hR
  refine aD.go uM rfl fun B Q hB hQ=> ?_
  have⟨hP,hY,hZ,gA⟩:=bw
  repeat' (first
 | simp only [go_sem,hP,hY,hZ,gA,b0,Bool.not_false]
 | (with_reducible refine CU (sk _) ?_)
 | (with_reducible refine aF hQ ?_;simp only [az,aB,Option.some.injEq,exists_eq_left',go_sem,hP,hY,hZ,gA];repeat' (first | exact Ok.out | with_reducible refine aG ?_ ?_ | (simp;done))))
 rw [b1]at b0
 obtain⟨jb,kB⟩:=Sz b1
 have htw:=(Hy jb).2.1
 simp only [b1,if_true, ← hL]at hR
 refine aD.go uM rfl fun B Q hB hQ=> ?_
 have⟨hP,hY,hZ,gA⟩:=bw
 repeat' (first
 | simp only [go_sem,hP,hY,hZ,gA,b0,Bool.not_true]
 | (with_reducible refine CU (sk _) ?_)
 | (with_reducible refine aF hQ ?_;simp only [az,aB,Option.some.injEq,exists_eq_left',go_sem,hP,hY,hZ,gA];repeat' (first | exact Ok.out | with_reducible refine aG ?_ ?_ | (simp;done))))
 refine eo 3 0 ?_ ?_ (bj.ind (ι:=List Pc×Nat×List Pc) (fun i=>p.procs.drop i.2.1=i.1∧p.procs=i.2.2++i.1) (fun i=>i.1.length)
  (fun i=> [(1, .ptr 0 0),(2, .ptr 1 0),(3, .gk 2),(15, .slice .shared 5 (p.procs.map cA)),(16, .int .i64 (p.procs.length:Int)),(17, .int .i64 (i.2.1:Int))]) (fun i=>⟨[cd p,[.int .i64 0, .int .i64 0],mc p i.2.2],[]⟩) ?_ (p.procs,0,[]) ⟨rfl,rfl⟩)
 ·(simp only [go_sem,hP,hY,hZ,gA,mc];try exact bQ)
 ·(simp only [go_sem,hP,hY,hZ,gA,mc];try exact bQ)
 rintro⟨rest,k,done⟩ ⟨h1,h2⟩ IH
 dsimp only at h1 h2
 cases rest with
 | cons a rest=>
  obtain⟨hY,g2,hP,g4⟩:=drop_cons h1
  have cz:k<4611686018427387904:=by omega
  have Xk:=fun s=>O5 h a.name s
  have Zq:a.name∉done.map (·.name):=by
   have:=WH _ [] htw (done.map (·.name)) a.name (rest.map (·.name)) (by simp [Pg.pn,h2])
   simpa using this
  have hmp:vj a.name (.slice .shared 1 ((p.kH a.name).map encStr)) (mc p done)=some (mc p (done++ [a])):=by
   rw [HP Zq,HO];rfl
  repeat' (first
 | simp only [go_sem,hP,hY,hZ,gA,hmp]
 | (with_reducible refine CU (Xk _) ?_)
 | (with_reducible refine aF hQ ?_;simp only [az,aB,Option.some.injEq,exists_eq_left',go_sem,hP,hY,hZ,gA];repeat' (first | exact Ok.out | with_reducible refine aG ?_ ?_ | (simp;done))))
  refine eo 3 0 ?_ ?_ (IH (rest,k+1,done++ [a]) ⟨g2,by rw [h2];simp⟩ (Nat.lt_succ_self _))
  ·(simp only [go_sem,hP,hY,hZ,gA,aN cz];try exact bQ)
  ·(simp only [go_sem,hP,hY,hZ,gA,aN cz];try exact bQ)
 | nil=>
  have hP:=drop_nil h1
  rw [List.append_nil]at h2
  subst h2
  repeat' (first
 | simp only [go_sem,hP,hY,hZ,gA,qP]
 | (with_reducible refine CU (dV _) ?_)
 | (with_reducible refine aF hQ ?_;simp only [az,aB,Option.some.injEq,exists_eq_left',go_sem,hP,hY,hZ,gA];repeat' (first | exact Ok.out | with_reducible refine aG ?_ ?_ | (simp;done))))
  refine cM 3 0 (bj.ind (ι:=List Im×Nat) (fun i=>p.e7.L.drop i.2=i.1∧n7 8 (EE p (i.1.map Im.s))=R) (fun i=>i.1.length)
   (fun i=> [(1, .ptr 0 0),(2, .ptr 1 0),(3, .gk 2),(33, .slice .shared 17 (p.e7.L.map eO)),(34, .int .i64 (p.e7.L.length:Int)),(35, .int .i64 (i.2:Int))]) (fun i=>⟨[cd p,[.int .i64 0, .int .i64 0],mc p p.procs],[]⟩) ?_ (p.e7.L,0) ⟨rfl,hR⟩)
  clear hR
  rintro⟨rest,k⟩ ⟨h1,hR⟩ IH
  dsimp only at h1 hR
  cases rest with
  | nil=>
   have hP:=drop_nil h1
   simp only [List.map_nil,EE,n7]at hR
   subst hR
   repeat' (first
 | simp only [go_sem,hP,hY,hZ,gA]
 | (with_reducible refine aF hQ ?_;simp only [az,aB,Option.some.injEq,exists_eq_left',go_sem,hP,hY,hZ,gA];repeat' (first | exact Ok.out | with_reducible refine aG ?_ ?_ | (simp;done))))
  | cons a rest=>
   obtain⟨hY,g2,hP,g4⟩:=drop_cons h1
   have cz:k<4611686018427387904:=by omega
   have Eg:a.s∈p.pre:=by rw [← hL];exact List.mem_map_of_mem (List.mem_of_getElem? hY)
   have Ja:=fun s=>Sy (Mb (h.pre _ Eg)) (HR h a.s.proc) s
   simp only [List.map_cons,EE,Sm.wN]at hR
   rcases Bool.eq_false_or_eq_true (a.s.kind==4)with c1 | c1
   ·obtain⟨f,hf⟩:=Pj (kB _ Eg c1)
    have hmg:=fun z=>HQ (p:=p) (z:=z) hf
    rcases Bool.eq_false_or_eq_true (ky a.s.name (p.kH a.s.proc) [] a.s.args)with c2 | c2
    ·simp only [c1,c2,Bool.not_true,Bool.and_false,Bool.false_eq_true,if_false]at hR
     repeat' (first
 | simp only [go_sem,hP,hY,hZ,gA,c1,c2,hmg]
 | (with_reducible refine CU (Ja _) ?_)
 | (with_reducible refine aF hQ ?_;simp only [az,aB,Option.some.injEq,exists_eq_left',go_sem,hP,hY,hZ,gA];repeat' (first | exact Ok.out | with_reducible refine aG ?_ ?_ | (simp;done))))
     refine eo 3 0 ?_ ?_ (IH (rest,k+1) ⟨g2,hR⟩ (Nat.lt_succ_self _))
     ·(simp only [go_sem,hP,hY,hZ,gA,aN cz];try exact bQ)
     ·(simp only [go_sem,hP,hY,hZ,gA,aN cz];try exact bQ)
    ·simp only [c1,c2,Bool.not_false,Bool.and_true,if_true,n7]at hR
     subst hR
     repeat' (first
 | simp only [go_sem,hP,hY,hZ,gA,c1,c2,hmg]
 | (with_reducible refine CU (Ja _) ?_)
 | (with_reducible refine aF hQ ?_;simp only [az,aB,Option.some.injEq,exists_eq_left',go_sem,hP,hY,hZ,gA];repeat' (first | exact Ok.out | with_reducible refine aG ?_ ?_ | (simp;done))))
   ·simp only [c1,Bool.false_and,Bool.false_eq_true,if_false]at hR
    repeat' (first
 | simp only [go_sem,hP,hY,hZ,gA,c1]
 | (with_reducible refine CU (Ja _) ?_)
 | (with_reducible refine aF hQ ?_;simp only [az,aB,Option.some.injEq,exists_eq_left',go_sem,hP,hY,hZ,gA];repeat' (first | exact Ok.out | with_reducible refine aG ?_ ?_ | (simp;done))))
    refine eo 3 0 ?_ ?_ (IH (rest,k+1) ⟨g2,hR⟩ (Nat.lt_succ_self _))
    ·(simp only [go_sem,hP,hY,hZ,gA,aN cz];try exact bQ)
    ·(simp only [go_sem,hP,hY,hZ,gA,aN cz];try exact bQ)
end Go.Abs

/-! Al3 -/

namespace Go.Abs
set_option maxRecDepth 8000
open Go.Proofs
def Sm.ZX (p:Pg) (v:Sm):Bool:=v.oj p && ZW (p.kH v.proc) v.alC v.args
def apF (p:Pg):List Sm→Option Sm
 | []=>none
 | v::l=>if v.kind==4 && !(v.ZX p)then some v else apF p l
end Go.Abs

/-! Prs3 -/

namespace Go.Abs
set_option maxRecDepth 8000
open Go.Proofs
theorem WI {n:Nat} {l:List ay} {fk:Int} {r:Rd} {p:List ay×Rd} (h:Rd.names n l fk r=some p) :
 aD Tryz.prog iE [.ptr 0 0, .slice (.tok 0) 1 (l.map encStr), .int .i64 fk] ⟨[b8 r],[some l.length]⟩ (.slice (.tok 0) 1 (p.1.map encStr)) ⟨[b8 p.2],[some p.1.length]⟩:=by
 refine aD.go vK rfl fun B Q hB hQ=> ?_
 have⟨hP,hY,hZ,gA⟩:=bw
 repeat' (first
 | simp only [go_sem,hP,hY,hZ,gA]
 | (with_reducible first | refine br fun hc=> ?_ | refine bt fun hc=> ?_ | refine bu (fun hc=> ?_) fun hc=> ?_) <;> (try simp only [hc,bs, ↓reduceIte]at h) <;> try simp only [hc]
 | (with_reducible refine aF hQ ?_;simp only [az,aB,bB,bC,go_sem,hP,hY,hZ,gA];repeat' (first | exact Ok.out | with_reducible refine aG ?_ ?_ | (simp;done))))
 refine cM 1 1 (bj.ind (ι:=Nat×List ay×Rd×Nat) (fun i=>Rd.names i.1 i.2.1 fk i.2.2.1=some p∧i.2.2.2=i.2.1.length) (fun i=>i.1)
  (fun i=> [(0, .ptr 0 0),(1, .slice (.tok 0) 1 (i.2.1.map encStr)),(2, .int .i64 fk)]) (fun i=>⟨[b8 i.2.2.1],[some i.2.2.2]⟩) ?_ (n,l,r,l.length) ⟨h,rfl⟩)
 rintro⟨n,l,r,k⟩ ⟨h,hk⟩ IH
 dsimp only at hk;subst hk
 cases n with
 | zero=>simp only [Rd.names]at h;cases h
 | succ n=>
  simp only [Rd.names]at h
  repeat' (first
 | simp only [go_sem,hP,hY,hZ,gA]
 | (rw [Option.bind_eq_some_iff]at h;obtain⟨_,h1,h⟩:=h;first | (with_reducible refine CU (wz h1 (by with_unfolding_all rfl)) ?_) | (obtain⟨hZ,ov⟩:=nU h1;subst ov;simp only [go_sem,hP,hY,hZ,gA]) | (with_reducible refine CU (rH h1 (by with_unfolding_all rfl)) ?_) | (with_reducible refine CU (oT h1 (by with_unfolding_all rfl)) ?_))
 | (with_reducible refine CU (jV (by with_unfolding_all rfl)) ?_)
 | (with_reducible first | refine br fun hc=> ?_ | refine bt fun hc=> ?_ | refine bu (fun hc=> ?_) fun hc=> ?_) <;> (try simp only [hc,bs, ↓reduceIte]at h) <;> try simp only [hc]
 | (with_reducible refine aF hQ ?_;(try cases h);simp only [az,aB,bB,bC,go_sem,hP,hY,hZ,gA];repeat' (first | exact Ok.out | with_reducible refine aG ?_ ?_ | (simp;done))))
  refine cM 1 1 (IH (n,_,_,l.length+1) ⟨h,by simp⟩ (Nat.lt_succ_self _))
theorem JI {n:Nat} {l:List ay} {fk:Int} {r:Rd} {p:List ay×Rd} (h:Rd.names n l fk r=some p) {s:St} {o t:Nat} (ho:s.aA[o]? = some (b8 r)) (ht:s.aC[t]? = some (some l.length)) :
 aD Tryz.prog iE [.ptr o 0, .slice (.tok t) 1 (l.map encStr), .int .i64 fk] s (.slice (.tok t) 1 (p.1.map encStr)) ⟨s.aA.set o (b8 p.2),s.aC.set t (some p.1.length)⟩:=
 (WI h).abD rfl (fx r) (fx p.2) (eD l) (eD p.1) ho ht
theorem HS {n:Nat} {r:Rd} {p:List ay×Rd} (h:Rd.labels n [] r=some p) {s:St} {o:Nat} (ho:s.aA[o]? = some (b8 r)) :
 aD Tryz.prog lY [.ptr o 0] s (.slice .shared 1 (p.1.map encStr)) ⟨s.aA.set o (b8 p.2),s.aC⟩:=by
 refine aD.jK ?_ rfl (fx r) (fx p.2) (by simp [D.ok,eD,Tag.ok]) ho
 refine aD.go uh rfl fun B Q hB hQ=> ?_
 have⟨hP,hY,hZ,gA⟩:=bw
 repeat' (first
 | simp only [go_sem,hP,hY,hZ,gA]
 | (with_reducible first | refine br fun hc=> ?_ | refine bt fun hc=> ?_ | refine bu (fun hc=> ?_) fun hc=> ?_) <;> (try simp only [hc,bs, ↓reduceIte]at h) <;> try simp only [hc]
 | (with_reducible refine aF hQ ?_;simp only [az,aB,bB,bC,go_sem,hP,hY,hZ,gA];repeat' (first | exact Ok.out | with_reducible refine aG ?_ ?_ | (simp;done))))
 refine bj.nT 3 1 rfl ?_
 simp only [go_sem,hP,hY,hZ,gA]
 refine cM 1 1 (bj.ind (ι:=Nat×List ay×Rd×Nat) (fun i=>Rd.labels i.1 i.2.1 i.2.2.1=some p∧i.2.2.2=i.2.1.length) (fun i=>i.1)
  (fun i=> [(0, .ptr 0 0),(3, .slice (.tok 0) 1 (i.2.1.map encStr))]) (fun i=>⟨[b8 i.2.2.1],[some i.2.2.2]⟩) ?_ (n,[],r,0) ⟨h,rfl⟩)
 rintro⟨n,l,r,k⟩ ⟨h,hk⟩ IH
 dsimp only at hk;subst hk
 cases n with
 | zero=>simp only [Rd.labels]at h;cases h
 | succ n=>
  simp only [Rd.labels,Rd.ahead]at h
  repeat' (first
 | simp only [go_sem,hP,hY,hZ,gA]
 | (rw [Option.bind_eq_some_iff]at h;obtain⟨_,h1,h⟩:=h;first | (with_reducible refine CU (n3 h1 (by with_unfolding_all rfl)) ?_;have hP:=qO h1) | (obtain⟨hZ,ov⟩:=nU h1;subst ov;simp only [go_sem,hP,hY,hZ,gA]) | (obtain⟨L7,hY⟩:=yN h1;simp only [go_sem,hY,hP,hY,hZ,gA]))
 | (with_reducible refine CU (jV (by with_unfolding_all rfl)) ?_)
 | (with_reducible first | refine br fun hc=> ?_ | refine bt fun hc=> ?_ | refine bu (fun hc=> ?_) fun hc=> ?_) <;> (try simp only [hc,bs, ↓reduceIte]at h) <;> try simp only [hc]
 | (with_reducible refine aF hQ ?_;(try cases h);simp only [az,aB,bB,bC,go_sem,hP,hY,hZ,gA];repeat' (first | exact Ok.out | with_reducible refine aG ?_ ?_ | (simp;done))))
  refine cM 1 1 (IH (n,_,_,l.length+1) ⟨h,by simp⟩ (Nat.lt_succ_self _))
end Go.Abs

/-! Prs4 -/

namespace Go.Abs
set_option maxRecDepth 8000
open Go.Proofs
theorem SA {r:Rd} {b:Bool} (h:r.GO=some b) {s:St} {o:Nat} (ho:s.aA[o]? = some (b8 r)) :
 aD Tryz.prog lZ [.ptr o 0] s (.bool b) ⟨s.aA.set o (b8 r),s.aC⟩:=by
 refine aD.jK ?_ rfl (fx r) (fx r) rfl ho
 unfold Rd.GO at h
 refine aD.go ui rfl fun B Q hB hQ=> ?_
 have⟨hP,hY,hZ,gA⟩:=bw
 repeat' (first
 | simp only [go_sem,hP,hY,hZ,gA]
 | (rw [Option.bind_eq_some_iff]at h;obtain⟨_,h1,h⟩:=h;first | (with_reducible refine CU (n3 h1 (by with_unfolding_all rfl)) ?_))
 | (with_reducible first | refine br fun hc=> ?_ | refine bt fun hc=> ?_ | refine bu (fun hc=> ?_) fun hc=> ?_) <;> (try simp only [hc,bs, ↓reduceIte]at h) <;> try simp only [hc]
 | (with_reducible refine aF hQ ?_;(try cases h);simp only [az,aB,bB,bC,go_sem,hP,hY,hZ,gA];repeat' (first | exact Ok.out | with_reducible refine aG ?_ ?_ | (simp;done))))
theorem ZY {m:Nat} {name proc:ay} {r:Rd} {p:Sm×Rd} (h:Rd.call m name proc r=some p) {s:St} {o:Nat} (ho:s.aA[o]? = some (b8 r)) :
 aD Tryz.prog kN [.ptr o 0, .str name, .str proc] s (.agg (bd p.1)) ⟨s.aA.set o (b8 p.2),s.aC⟩:=by
 refine aD.jK ?_ rfl (fx r) (fx p.2) (by simp [D.ok,nh]) ho
 unfold Rd.call Rd.other at h
 refine aD.go wm rfl fun B Q hB hQ=> ?_
 have⟨hP,hY,hZ,gA⟩:=bw
 repeat' (first
 | simp only [go_sem,hP,hY,hZ,gA]
 | (rw [Option.bind_eq_some_iff]at h;obtain⟨_,h1,h⟩:=h;first | (with_reducible refine CU (oT h1 (by with_unfolding_all rfl)) ?_) | (with_reducible refine CU (zf h1 (by with_unfolding_all rfl)) ?_))
 | (with_reducible refine CU (jV (by with_unfolding_all rfl)) ?_)
 | (with_reducible first | refine br fun hc=> ?_ | refine bt fun hc=> ?_ | refine bu (fun hc=> ?_) fun hc=> ?_) <;> (try simp only [hc,bs, ↓reduceIte]at h) <;> try simp only [hc]
 | (with_reducible refine aF hQ ?_;exact lG)
 | (cases h;replace h:=hr;clear hr;(try simp only [bs, ↓reduceIte]at h))
 | (cases h;done))
 rw [Option.bind_eq_some_iff]at h
 obtain⟨q,h,hr⟩:=h
 refine bj.pb 2 10 6 rfl rfl ?_
 simp only [go_sem,hP,hY,hZ,gA]
 refine cM 3 1 (bj.ind (ι:=Nat×List Ar×Rd×Nat) (fun i=>Rd.w9 m i.1 i.2.1 i.2.2.1=some q∧i.2.2.2=i.2.1.length) (fun i=>i.1)
  (fun i=> [(0, .ptr 0 0),(6, .ptr 1 0),(7, .ptr 2 0)]) (fun i=>⟨[b8 i.2.2.1,bd Gz,[.int .i64 0, .int .i64 4, .slice .shared 1 [], .str name, .str proc, .int .i64 0, .int .i64 0, .str [], .slice .shared 4 [], .bool false, .slice (.tok 0) 6 (i.2.1.map dR), .slice .shared 13 [], .slice .shared 13 []]],[some i.2.2.2]⟩) ?_ (m,[],_,0) ⟨h,rfl⟩)
 rintro⟨n,l,r,k⟩ ⟨h,hk⟩ IH
 dsimp only at hk;subst hk
 cases n with
 | zero=>simp only [Rd.w9]at h;cases h
 | succ n=>
  simp only [Rd.w9]at h
  repeat' (first
 | simp only [go_sem,hP,hY,hZ,gA]
 | (rw [Option.bind_eq_some_iff]at h;obtain⟨_,h1,h⟩:=h;first | (with_reducible refine CU (rH h1 (by with_unfolding_all rfl)) ?_) | (obtain⟨hZ,ov⟩:=nU h1;subst ov;simp only [go_sem,hP,hY,hZ,gA]) | (with_reducible refine CU (wz h1 (by with_unfolding_all rfl)) ?_) | (with_reducible refine CU (zZ h1 (by with_unfolding_all rfl)) ?_) | (with_reducible refine CU (oT h1 (by with_unfolding_all rfl)) ?_))
 | (with_reducible refine CU (jV (by with_unfolding_all rfl)) ?_)
 | (with_reducible first | refine br fun hc=> ?_ | refine bt fun hc=> ?_ | refine bu (fun hc=> ?_) fun hc=> ?_) <;> (try simp only [hc,bs, ↓reduceIte]at h) <;> try simp only [hc]
 | (with_reducible refine aF hQ ?_;exact lG)
 | (cases h;replace h:=hr;clear hr;(try simp only [bs, ↓reduceIte]at h))
 | (cases h;done))
  ·refine cM 3 1 (IH (n,_,_,l.length+1) ⟨h,by simp⟩ (Nat.lt_succ_self _))
  ·refine cM 3 1 (IH (n,_,_,l.length+1) ⟨h,by simp⟩ (Nat.lt_succ_self _))
theorem SB {m:Nat} {r:Rd} {p:Sm×Rd} (h:Rd.named m r=some p) {s:St} {o:Nat} (ho:s.aA[o]? = some (b8 r)) :
 aD Tryz.prog mD [.ptr o 0] s (.agg (bd p.1)) ⟨s.aA.set o (b8 p.2),s.aC⟩:=by
 refine aD.jK ?_ rfl (fx r) (fx p.2) (by simp [D.ok,nh]) ho
 unfold Rd.named Rd.ahead at h
 refine aD.go vG rfl fun B Q hB hQ=> ?_
 have⟨hP,hY,hZ,gA⟩:=bw
 repeat' (first
 | simp only [go_sem,hP,hY,hZ,gA]
 | (rw [Option.bind_eq_some_iff]at h;obtain⟨_,h1,h⟩:=h;first | (with_reducible refine CU (wz h1 (by with_unfolding_all rfl)) ?_) | (with_reducible refine CU (oT h1 (by with_unfolding_all rfl)) ?_) | (with_reducible refine CU (zf h1 (by with_unfolding_all rfl)) ?_) | (with_reducible refine CU (n3 h1 (by with_unfolding_all rfl)) ?_;have hP:=qO h1) | (obtain⟨L7,hY⟩:=yN h1;simp only [go_sem,hY,hP,hY,hZ,gA]) | (with_reducible refine CU (zZ h1 (by with_unfolding_all rfl)) ?_))
 | (with_reducible refine CU (jV (by with_unfolding_all rfl)) ?_)
 | (with_reducible refine CU (ZY h (by with_unfolding_all rfl)) ?_)
 | (with_reducible first | refine br fun hc=> ?_ | refine bt fun hc=> ?_ | refine bu (fun hc=> ?_) fun hc=> ?_) <;> (try simp only [hc,bs, ↓reduceIte]at h) <;> try simp only [hc]
 | (with_reducible refine aF hQ ?_;(try cases h);simp only [az,aB,bB,bC,go_sem,hP,hY,hZ,gA];repeat' (first | exact Ok.out | with_reducible refine aG ?_ ?_ | (simp;done))))
theorem WJ {m:Nat} {word:ay} {r:Rd} {p:Sm×Rd} (h:Rd.plain m word r=some p) {s:St} {o:Nat} (ho:s.aA[o]? = some (b8 r)) :
 aD Tryz.prog mE [.ptr o 0, .str word] s (.agg (bd p.1)) ⟨s.aA.set o (b8 p.2),s.aC⟩:=by
 refine aD.jK ?_ rfl (fx r) (fx p.2) (by simp [D.ok,nh]) ho
 unfold Rd.plain at h
 refine aD.go vI rfl fun B Q hB hQ=> ?_
 have⟨hP,hY,hZ,gA⟩:=bw
 repeat' (first
 | simp only [go_sem,hP,hY,hZ,gA]
 | (rw [Option.bind_eq_some_iff]at h;obtain⟨_,h1,h⟩:=h;first | (with_reducible refine CU (wz h1 (by with_unfolding_all rfl)) ?_) | (with_reducible refine CU (zf h1 (by with_unfolding_all rfl)) ?_) | (with_reducible refine CU (zZ h1 (by with_unfolding_all rfl)) ?_))
 | (with_reducible first | refine br fun hc=> ?_ | refine bt fun hc=> ?_ | refine bu (fun hc=> ?_) fun hc=> ?_) <;> (try simp only [hc,bs, ↓reduceIte]at h) <;> try simp only [hc]
 | (with_reducible refine aF hQ ?_;(try cases h);simp only [az,aB,bB,bC,go_sem,hP,hY,hZ,gA];repeat' (first | exact Ok.out | with_reducible refine aG ?_ ?_ | (simp;done))))
theorem Pl {m:Nat} {r:Rd} {p:Ex×Rd} (h:Rd.head m r=some p) {s:St} {o:Nat} (ho:s.aA[o]? = some (b8 r)) :
 aD Tryz.prog kM [.ptr o 0] s (.agg (bo p.1)) ⟨s.aA.set o (b8 p.2),s.aC⟩:=by
 refine aD.jK ?_ rfl (fx r) (fx p.2) (by simp [D.ok,fW]) ho
 unfold Rd.head at h
 refine aD.go wk rfl fun B Q hB hQ=> ?_
 have⟨hP,hY,hZ,gA⟩:=bw
 repeat' (first
 | simp only [go_sem,hP,hY,hZ,gA]
 | (rw [Option.bind_eq_some_iff]at h;obtain⟨_,h1,h⟩:=h;first | (with_reducible refine CU (oT h1 (by with_unfolding_all rfl)) ?_) | (with_reducible refine CU (zZ h1 (by with_unfolding_all rfl)) ?_))
 | (with_reducible first | refine br fun hc=> ?_ | refine bt fun hc=> ?_ | refine bu (fun hc=> ?_) fun hc=> ?_) <;> (try simp only [hc,bs, ↓reduceIte]at h) <;> try simp only [hc]
 | (with_reducible refine aF hQ ?_;(try cases h);simp only [az,aB,bB,bC,go_sem,hP,hY,hZ,gA];repeat' (first | exact Ok.out | with_reducible refine aG ?_ ?_ | (simp;done))))
end Go.Abs
