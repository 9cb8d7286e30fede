/-
  What is proved here: part 3 of the road to the claim (Nm1, Nm2, Nm3, MayEq2, Tree1, Tree2, Sc1, Sc2, Sc3, ScP, Sc4, Rng, FineM, Sc5, Ar1, Ar2, Ar3, Srt1, Shelf, SortR, SrtP, Tc1, Tc2, Tc3, Bsl, Tc4, Tc5, Tc6, Tc7, ScPr, FlP, JmpP, Jm1, Jm2, Jm3, Rj1, Rj2, Swap0, Swap2p, ToP, Al1, Al2, Al3, Prs3, Prs4, Prs5, Prs6).
  No conditions.
-/
import Derived.Test.YtiopamakecmpkaaGreatCkP2
import Derived.Shelf.Small.Bits
import Derived.Shelf.Strconv.Itoa0
import Derived.Shelf.Sort.Plain
import Derived.Shelf.Slices.Turned
import Derived.Ground.Names2Prog
import Derived.Shelf.Slices.Clone
import Derived.Shelf.Slices.CompactS
import Derived.Shelf.Slices.Cells
import Derived.Shelf.Slices.In.SortNone
import Derived.Ground.SlgnProg
import Derived.Shelf.SlicesE.Clone
import Derived.Test.YtiopamakecmpkaaGreatProg
import Derived.Sort.Walk0

set_option linter.unusedSimpArgs false
set_option linter.unusedVariables false

/-! Nm1 -/

namespace Go.Abs
set_option maxRecDepth 8000
open Go.Proofs
mutual
def Ex.lE (out:List ay):Ex→List ay
 | ⟨op,_,name,kids⟩=>Ex.kL (if op==2 && !(eH out name)then out++ [name]else out) kids
def Ex.kL (out:List ay):List Ex→List ay
 | []=>out
 | x::l=>Ex.kL (Ex.lE out x) l
end
def Ex.names (x:Ex):List ay:=if x.may then x.lE []else []
mutual
theorem qT (out:List ay) : ∀ x:Ex,(Ex.lE out x).length≤out.length+x.size
 | ⟨op,n,name,kids⟩=>by
  simp only [Ex.lE,Ex.size]
  have h:=D5 (if op==2 && !(eH out name)then out++ [name]else out) kids
  refine Nat.le_trans h ?_
  split <;> simp <;> omega
theorem D5 (out:List ay) : ∀ l:List Ex,(Ex.kL out l).length≤out.length+Ex.aR l
 | []=>by simp [Ex.kL,Ex.aR]
 | x::l=>by
  simp only [Ex.kL,Ex.aR]
  have h1:=qT out x
  have h2:=D5 (Ex.lE out x) l
  omega
end
def zw (out:List ay) (x:ay):List ay:=if eH out x then out else out++ [x]
def adM (x:ay):List ay→Bool
 | []=>false
 | s::l=>if s==x then true else adM x l
abbrev Pk (N:Nat):Prop:=∀ (x:Ex),x.size≤N→∀ out:List ay,out.length+x.size≤1000000000→∀ {s:St} {t:Nat},s.aC[t]? = some (some out.length)→
 aD Tryz.prog gZ [.agg (bC x), .slice (.tok t) 1 (out.map encStr)] s (.slice (.tok t) 1 ((x.lE out).map encStr)) ⟨s.az,s.aC.set t (some (x.lE out).length)⟩
theorem aad {N:Nat} (ih:Pk N) {op m:Int} {name:ay} {kids:List Ex} (h:Ex.size ⟨op,m,name,kids⟩≤N+1) {out:List ay} (ho:out.length+Ex.size ⟨op,m,name,kids⟩≤1000000000) :
 aD Tryz.prog gZ [.agg (bC ⟨op,m,name,kids⟩), .slice (.tok 0) 1 (out.map encStr)] ⟨[],[some out.length]⟩ (.slice (.tok 0) 1 ((Ex.lE out ⟨op,m,name,kids⟩).map encStr)) ⟨[],[some (Ex.lE out ⟨op,m,name,kids⟩).length]⟩:=by
 obtain⟨R,hG⟩ : ∃ R,Ex.lE out ⟨op,m,name,kids⟩=R:=⟨_,rfl⟩
 rw [hG]
 simp only [Ex.lE]at hG
 simp only [Ex.size]at h ho
 have hlen:kids.length<1000000000:=by have:=Ex.c9 kids;omega
 have hk : ∀ y∈kids,∀ out:List ay,out.length+y.size≤1000000000→∀ {s:St} {t:Nat},s.aC[t]? = some (some out.length)→
  aD Tryz.prog gZ [.agg (bC y), .slice (.tok t) 1 (out.map encStr)] s (.slice (.tok t) 1 ((y.lE out).map encStr)) ⟨s.az,s.aC.set t (some (y.lE out).length)⟩:=fun y hy out ho=>
  ih y (by have:=Ex.cd hy;omega) out ho
 refine aD.go qi rfl fun B Q hB hQ=> ?_
 have⟨hC,hE,hF,hM⟩:=bL
 have hF:(out.length+1)*17≤bQ:=by unfold bQ;omega
 rcases Bool.eq_false_or_eq_true (op==2)with b1 | b1
 ·rcases Bool.eq_false_or_eq_true (eH out name)with b2 | b2
  ·simp only [b1,b2,Bool.not_true,Bool.and_false,Bool.false_eq_true,if_false]at hG
   repeat' (first
 | simp only [go_sem,hC,hE,hF,hM,b1,b2]
 | (with_reducible refine CU (iB (l:=out) (by omega) name _ _) ?_)
 | (with_reducible refine aH hQ ?_;simp only [aA,aB,Option.some.injEq,exists_eq_left',go_sem,hC,hE,hF,hM];repeat' (first | exact Ok.out | with_reducible refine aJ ?_ ?_ | (simp;done))))
   refine dc 1 1 (bw.ind (ι:=List Ex×Nat×List ay×Nat) (fun i=>kids.drop i.2.1=i.1∧Ex.kL i.2.2.1 i.1=R∧i.2.2.1.length+Ex.aR i.1≤1000000000∧i.2.2.2=i.2.2.1.length) (fun i=>i.1.length)
    (fun i=> [(1, .slice (.tok 0) 1 (i.2.2.1.map encStr)),(2, .ptr 0 0),(23, .slice .shared 4 (kids.map bC)),(24, .int .i64 (kids.length:Int)),(25, .int .i64 (i.2.1:Int))]) (fun i=>⟨[bC ⟨op,m,name,kids⟩],[some i.2.2.2]⟩) ?_ (kids,0,out,out.length) ⟨rfl,hG,by simp;omega,by simp⟩)
   rintro⟨rest,k,b9,n'⟩ ⟨h1,h2,h3,h4⟩ IH
   dsimp only at h1 h2 h3 h4
   subst h4
   cases rest with
   | nil=>
    have hC:=drop_nil h1
    simp only [Ex.kL]at h2
    subst h2
    repeat' (first
 | simp only [go_sem,hC,hE,hF,hM]
 | (with_reducible refine aH hQ ?_;simp only [aA,aB,Option.some.injEq,exists_eq_left',go_sem,hC,hE,hF,hM];repeat' (first | exact Ok.out | with_reducible refine aJ ?_ ?_ | (simp;done))))
   | cons y rest=>
    obtain⟨hE,g2,hC,g4⟩:=drop_cons h1
    have bS:k<4611686018427387904:=by omega
    simp only [Ex.kL]at h2
    simp only [Ex.aR]at h3
    have hy:=fun {s:St} {t:Nat} (ht:s.aC[t]? = some (some b9.length))=>hk y (List.mem_of_getElem? hE) b9 (by omega) ht
    have hl:=qT b9 y
    repeat' (first
 | simp only [go_sem,hC,hE,hF,hM]
 | (with_reducible refine CU (hy (by with_unfolding_all rfl)) ?_)
 | (with_reducible refine aH hQ ?_;simp only [aA,aB,Option.some.injEq,exists_eq_left',go_sem,hC,hE,hF,hM];repeat' (first | exact Ok.out | with_reducible refine aJ ?_ ?_ | (simp;done))))
    refine dV 1 1 ?_ ?_ (IH (rest,k+1,_,_) ⟨g2,h2,by dsimp only;omega,rfl⟩ (Nat.lt_succ_self _))
    ·(simp only [go_sem,hC,hE,hF,hM,aP bS];try exact bR)
    ·(simp only [go_sem,hC,hE,hF,hM,aP bS];try exact bR)
  ·simp only [b1,b2,Bool.not_false,Bool.and_true,if_true]at hG
   repeat' (first
 | simp only [go_sem,hC,hE,hF,hM,b1,b2]
 | (with_reducible refine CU (iB (l:=out) (by omega) name _ _) ?_)
 | (with_reducible refine aH hQ ?_;simp only [aA,aB,Option.some.injEq,exists_eq_left',go_sem,hC,hE,hF,hM];repeat' (first | exact Ok.out | with_reducible refine aJ ?_ ?_ | (simp;done))))
   refine dV 1 1 ?_ ?_ (bw.ind (ι:=List Ex×Nat×List ay×Nat) (fun i=>kids.drop i.2.1=i.1∧Ex.kL i.2.2.1 i.1=R∧i.2.2.1.length+Ex.aR i.1≤1000000000∧i.2.2.2=i.2.2.1.length) (fun i=>i.1.length)
    (fun i=> [(1, .slice (.tok 0) 1 (i.2.2.1.map encStr)),(2, .ptr 0 0),(23, .slice .shared 4 (kids.map bC)),(24, .int .i64 (kids.length:Int)),(25, .int .i64 (i.2.1:Int))]) (fun i=>⟨[bC ⟨op,m,name,kids⟩],[some i.2.2.2]⟩) ?_ (kids,0,(out++ [name]),(out.length+1)) ⟨rfl,hG,by simp;omega,by simp⟩)
   ·(simp only [go_sem,hC,hE,hF,hM,List.map_append,List.map_cons,List.map_nil,List.length_append,List.length_cons,List.length_nil,encStr];try exact bR)
   ·(simp only [go_sem,hC,hE,hF,hM,List.map_append,List.map_cons,List.map_nil,List.length_append,List.length_cons,List.length_nil,encStr];try exact bR)
   rintro⟨rest,k,b9,n'⟩ ⟨h1,h2,h3,h4⟩ IH
   dsimp only at h1 h2 h3 h4
   subst h4
   cases rest with
   | nil=>
    have hC:=drop_nil h1
    simp only [Ex.kL]at h2
    subst h2
    repeat' (first
 | simp only [go_sem,hC,hE,hF,hM]
 | (with_reducible refine aH hQ ?_;simp only [aA,aB,Option.some.injEq,exists_eq_left',go_sem,hC,hE,hF,hM];repeat' (first | exact Ok.out | with_reducible refine aJ ?_ ?_ | (simp;done))))
   | cons y rest=>
    obtain⟨hE,g2,hC,g4⟩:=drop_cons h1
    have bS:k<4611686018427387904:=by omega
    simp only [Ex.kL]at h2
    simp only [Ex.aR]at h3
    have hy:=fun {s:St} {t:Nat} (ht:s.aC[t]? = some (some b9.length))=>hk y (List.mem_of_getElem? hE) b9 (by omega) ht
    have hl:=qT b9 y
    repeat' (first
 | simp only [go_sem,hC,hE,hF,hM]
 | (with_reducible refine CU (hy (by with_unfolding_all rfl)) ?_)
 | (with_reducible refine aH hQ ?_;simp only [aA,aB,Option.some.injEq,exists_eq_left',go_sem,hC,hE,hF,hM];repeat' (first | exact Ok.out | with_reducible refine aJ ?_ ?_ | (simp;done))))
    refine dV 1 1 ?_ ?_ (IH (rest,k+1,_,_) ⟨g2,h2,by dsimp only;omega,rfl⟩ (Nat.lt_succ_self _))
    ·(simp only [go_sem,hC,hE,hF,hM,aP bS];try exact bR)
    ·(simp only [go_sem,hC,hE,hF,hM,aP bS];try exact bR)
 ·simp only [b1,Bool.false_and,Bool.false_eq_true,if_false]at hG
  repeat' (first
 | simp only [go_sem,hC,hE,hF,hM,b1]
 | (with_reducible refine aH hQ ?_;simp only [aA,aB,Option.some.injEq,exists_eq_left',go_sem,hC,hE,hF,hM];repeat' (first | exact Ok.out | with_reducible refine aJ ?_ ?_ | (simp;done))))
  refine dc 1 1 (bw.ind (ι:=List Ex×Nat×List ay×Nat) (fun i=>kids.drop i.2.1=i.1∧Ex.kL i.2.2.1 i.1=R∧i.2.2.1.length+Ex.aR i.1≤1000000000∧i.2.2.2=i.2.2.1.length) (fun i=>i.1.length)
   (fun i=> [(1, .slice (.tok 0) 1 (i.2.2.1.map encStr)),(2, .ptr 0 0),(23, .slice .shared 4 (kids.map bC)),(24, .int .i64 (kids.length:Int)),(25, .int .i64 (i.2.1:Int))]) (fun i=>⟨[bC ⟨op,m,name,kids⟩],[some i.2.2.2]⟩) ?_ (kids,0,out,out.length) ⟨rfl,hG,by simp;omega,by simp⟩)
  rintro⟨rest,k,b9,n'⟩ ⟨h1,h2,h3,h4⟩ IH
  dsimp only at h1 h2 h3 h4
  subst h4
  cases rest with
  | nil=>
   have hC:=drop_nil h1
   simp only [Ex.kL]at h2
   subst h2
   repeat' (first
 | simp only [go_sem,hC,hE,hF,hM]
 | (with_reducible refine aH hQ ?_;simp only [aA,aB,Option.some.injEq,exists_eq_left',go_sem,hC,hE,hF,hM];repeat' (first | exact Ok.out | with_reducible refine aJ ?_ ?_ | (simp;done))))
  | cons y rest=>
   obtain⟨hE,g2,hC,g4⟩:=drop_cons h1
   have bS:k<4611686018427387904:=by omega
   simp only [Ex.kL]at h2
   simp only [Ex.aR]at h3
   have hy:=fun {s:St} {t:Nat} (ht:s.aC[t]? = some (some b9.length))=>hk y (List.mem_of_getElem? hE) b9 (by omega) ht
   have hl:=qT b9 y
   repeat' (first
 | simp only [go_sem,hC,hE,hF,hM]
 | (with_reducible refine CU (hy (by with_unfolding_all rfl)) ?_)
 | (with_reducible refine aH hQ ?_;simp only [aA,aB,Option.some.injEq,exists_eq_left',go_sem,hC,hE,hF,hM];repeat' (first | exact Ok.out | with_reducible refine aJ ?_ ?_ | (simp;done))))
   refine dV 1 1 ?_ ?_ (IH (rest,k+1,_,_) ⟨g2,h2,by dsimp only;omega,rfl⟩ (Nat.lt_succ_self _))
   ·(simp only [go_sem,hC,hE,hF,hM,aP bS];try exact bR)
   ·(simp only [go_sem,hC,hE,hF,hM,aP bS];try exact bR)
theorem SV : ∀ N,Pk N:=by
 intro N
 induction N with
 | zero=>rintro⟨op,m,name,kids⟩ h;simp only [Ex.size]at h;omega
 | succ N ih=>
  rintro⟨op,m,name,kids⟩ h out ho s t ht
  exact(aad ih h ho).afG (pre:= [_]) (post:= []) (by simp only [D.bT,D.ok,gH];rfl) rfl (eI out) (eI _) ht
abbrev amt (N:Nat):Prop:=∀ (x:Ex),x.size≤N→∀ out:List ay,out.length+x.size≤1000000000→∀ {s:St} {t:Nat},s.aC[t]? = some (some out.length)→
 aD Tryz.prog Is [.agg (bC x), .slice (.tok t) 1 (out.map encStr)] s (.slice (.tok t) 1 ((x.lE out).map encStr)) ⟨s.az,s.aC.set t (some (x.lE out).length)⟩
end Go.Abs

/-! Nm2 -/

namespace Go.Abs
set_option maxRecDepth 8000
open Go.Proofs
theorem Pl {op m:Int} {name:ay} {kids:List Ex} (h:Ex.form ⟨op,m,name,kids⟩=true) (h2:(op==2)=true):kids = []:=by
 have e:op=2:=by simpa using h2
 subst e
 simp only [Ex.form]at h
 split at h
 ·cases h
 ·rename_i hh
  simp only [Bool.or_eq_true,not_or,bne_iff_ne,ne_eq,Decidable.not_not]at hh
  have:=hh.1.1.1.1
  have e:iO 2=0:=rfl
  rw [e]at this
  exact List.length_eq_zero_iff.1 (by omega)
theorem SW {op m:Int} {name:ay} {kids:List Ex} (hf:(op==2)=true→kids = []) (ho:Ex.size ⟨op,m,name,kids⟩≤1000000000) (s:St) :
 aD Tryz.prog gZ [.agg (bC ⟨op,m,name,kids⟩), .slice .full 0 []] s (.slice .shared 1 ((Ex.lE [] ⟨op,m,name,kids⟩).map encStr)) s:=by
 refine aD.pure ?_ (by simp only [D.bT,D.ok,gH];rfl) (by simp only [D.ok,Tag.ok,eI];rfl) s
 obtain⟨R,hG⟩ : ∃ R,Ex.lE [] ⟨op,m,name,kids⟩=R:=⟨_,rfl⟩
 rw [hG]
 simp only [Ex.lE]at hG
 simp only [Ex.size]at ho
 have hlen:kids.length<1000000000:=by have:=Ex.c9 kids;omega
 have hk : ∀ y∈kids,∀ out:List ay,out.length+y.size≤1000000000→∀ {s:St} {t:Nat},s.aC[t]? = some (some out.length)→
  aD Tryz.prog gZ [.agg (bC y), .slice (.tok t) 1 (out.map encStr)] s (.slice (.tok t) 1 ((y.lE out).map encStr)) ⟨s.az,s.aC.set t (some (y.lE out).length)⟩:=fun y hy out ho=>
  SV y.size y (Nat.le_refl _) out ho
 unfold S0
 rcases Bool.eq_false_or_eq_true (op==2)with b1 | b1
 ·have hk0:=hf b1
  subst hk0
  have e:eH [] name=false:=rfl
  simp only [b1,e,Bool.not_false,Bool.and_true,if_true,Ex.kL,List.nil_append]at hG
  subst hG
  refine aD.go qi rfl fun B Q hB hQ=> ?_
  have⟨hC,hE,hF,hM⟩:=bL
  have hF:17≤bQ:=by unfold bQ;omega
  repeat' (first
 | simp only [go_sem,hC,hE,hF,hM,b1,List.map_nil,List.map_cons,List.length_nil,encStr,Int.natCast_zero,Int.lt_irrefl,decide_false]
 | (with_reducible refine CU (GQ name _ _ _) ?_)
 | (with_reducible refine bw.wY ?_)
 | (with_reducible refine aH hQ ?_;simp only [aA,aB,Option.some.injEq,exists_eq_left',go_sem,hC,hE,hF,hM];repeat' (first | exact Ok.out | with_reducible refine aJ ?_ ?_ | (simp;done))))
 ·simp only [b1,Bool.false_and,Bool.false_eq_true,if_false]at hG
  refine aD.go qi rfl fun B Q hB hQ=> ?_
  have⟨hC,hE,hF,hM⟩:=bL
  repeat' (first
 | simp only [go_sem,hC,hE,hF,hM,b1]
 | (with_reducible refine aH hQ ?_;simp only [aA,aB,Option.some.injEq,exists_eq_left',go_sem,hC,hE,hF,hM];repeat' (first | exact Ok.out | with_reducible refine aJ ?_ ?_ | (simp;done))))
  refine bw.pf 1 1 rfl ?_
  simp only [go_sem,hC,hE,hF,hM]
  refine dc 1 1 (bw.ind (ι:=List Ex×Nat×List ay×Nat) (fun i=>kids.drop i.2.1=i.1∧Ex.kL i.2.2.1 i.1=R∧i.2.2.1.length+Ex.aR i.1≤1000000000∧i.2.2.2=i.2.2.1.length) (fun i=>i.1.length)
   (fun i=> [(1, .slice (.tok 0) 1 (i.2.2.1.map encStr)),(2, .ptr 0 0),(23, .slice .shared 4 (kids.map bC)),(24, .int .i64 (kids.length:Int)),(25, .int .i64 (i.2.1:Int))]) (fun i=>⟨[bC ⟨op,m,name,kids⟩],[some i.2.2.2]⟩) ?_ (kids,0,[],0) ⟨rfl,hG,by simp;omega,by simp⟩)
  rintro⟨rest,k,b9,n'⟩ ⟨h1,h2,h3,h4⟩ IH
  dsimp only at h1 h2 h3 h4
  subst h4
  cases rest with
  | nil=>
   have hC:=drop_nil h1
   simp only [Ex.kL]at h2
   subst h2
   repeat' (first
 | simp only [go_sem,hC,hE,hF,hM]
 | (with_reducible refine aH hQ ?_;simp only [aA,aB,Option.some.injEq,exists_eq_left',go_sem,hC,hE,hF,hM];repeat' (first | exact Ok.out | with_reducible refine aJ ?_ ?_ | (simp;done))))
  | cons y rest=>
   obtain⟨hE,g2,hC,g4⟩:=drop_cons h1
   have bS:k<4611686018427387904:=by omega
   simp only [Ex.kL]at h2
   simp only [Ex.aR]at h3
   have hy:=fun {s:St} {t:Nat} (ht:s.aC[t]? = some (some b9.length))=>hk y (List.mem_of_getElem? hE) b9 (by omega) ht
   have hl:=qT b9 y
   repeat' (first
 | simp only [go_sem,hC,hE,hF,hM]
 | (with_reducible refine CU (hy (by with_unfolding_all rfl)) ?_)
 | (with_reducible refine aH hQ ?_;simp only [aA,aB,Option.some.injEq,exists_eq_left',go_sem,hC,hE,hF,hM];repeat' (first | exact Ok.out | with_reducible refine aJ ?_ ?_ | (simp;done))))
   refine dV 1 1 ?_ ?_ (IH (rest,k+1,_,_) ⟨g2,h2,by dsimp only;omega,rfl⟩ (Nat.lt_succ_self _))
   ·(simp only [go_sem,hC,hE,hF,hM,aP bS];try exact bR)
   ·(simp only [go_sem,hC,hE,hF,hM,aP bS];try exact bR)
theorem mc {x:Ex} (hx:x.size≤1000000000) (ht:x.texts) (s:St):aD Tryz.prog qc [.agg (bC x)] s (.slice .shared 1 (x.names.map encStr)) s:=by
 refine aD.pure ?_ (by simp only [D.bT,D.ok,gH];rfl) (by simp only [D.ok,Tag.ok,eI];rfl) s
 have hm:=fun s=>BV (x:=x) (by omega) ht s
 simp only [Pj]at hm
 unfold Ex.names
 unfold S0
 cases hb:x.may
 ·simp only [hb]at hm
  simp only [Bool.false_eq_true,if_false,List.map_nil]
  refine aD.go wk rfl fun B Q hB hQ=> ?_
  have⟨hC,hE,hF,hM⟩:=bL
  repeat' (first
 | simp only [go_sem,hC,hE,hF,hM]
 | (with_reducible refine CU (hm _) ?_)
 | (with_reducible refine aH hQ ?_;simp only [aA,aB,Option.some.injEq,exists_eq_left',go_sem,hC,hE,hF,hM];repeat' (first | exact Ok.out | with_reducible refine aJ ?_ ?_ | (simp;done))))
 ·simp only [hb]at hm
  simp only [if_true]
  have hg : ∀ s,aD Tryz.prog gZ [.agg (bC x), .slice .full 0 []] s (.slice .shared 1 ((x.lE []).map encStr)) s:=by
   intro s
   obtain⟨op,m,name,kids⟩:=x
   exact SW (fun h2=>Pl (by simp only [Ex.may,Bool.and_eq_true]at hb;exact hb.2) h2) hx s
  refine aD.go wk rfl fun B Q hB hQ=> ?_
  have⟨hC,hE,hF,hM⟩:=bL
  repeat' (first
 | simp only [go_sem,hC,hE,hF,hM]
 | (with_reducible refine CU (hm _) ?_)
 | (with_reducible refine CU (hg _) ?_)
 | (with_reducible refine aH hQ ?_;simp only [aA,aB,Option.some.injEq,exists_eq_left',go_sem,hC,hE,hF,hM];repeat' (first | exact Ok.out | with_reducible refine aJ ?_ ?_ | (simp;done))))
end Go.Abs

/-! Nm3 -/

namespace Go.Abs
set_option maxRecDepth 8000
open Go.Proofs
def Ar.said (out:List ay):List Ar→List ay
 | []=>out
 | a::l=>Ar.said ((if a.ref then out++ [a.name]else out)++a.x.names) l
def Sm.sR (v:Sm):List ay:=if v.kind != 10 && v.name != []then [v.name]else []
def Sm.said (v:Sm):List ay:=Ar.said (v.sR++v.x.names) v.args
theorem kb (x:Ex):x.names.length≤x.size:=by
 unfold Ex.names
 split
 ·simpa using qT [] x
 ·exact Nat.zero_le _
def Ar.wm:List Ar→Prop
 | []=>True
 | a::l=>a.x.texts∧Ar.wm l
def Sm.oR (v:Sm):Prop:=v.x.texts∧(∀ a∈v.args,a.x.texts)∧v.x.size+Ar.aR v.args<1000000
theorem jJ {l nx:List ay} {n:Nat} (hn:n=l.length) (h:l.length+nx.length≤1000000000) {g:Tag} (o:List (List D)) :
 kp 1 16 (.slice (.tok 0) 1 (l.map encStr)) (.slice g 1 (nx.map encStr)) ⟨o,[some n]⟩=some (.slice (.tok 0) 1 ((l++nx).map encStr),⟨o,[some (l++nx).length]⟩):=by
 subst hn
 have:=RJ (size:=1) (bytes:=16) (t:=0) (rows:=l.map encStr) (new:=nx.map encStr) (g:=g) (s:=⟨o,[some l.length]⟩) (by simp only [List.length_map];unfold bQ;omega) (by simp)
 rw [this]
 simp
theorem y1 {v:Sm} (hv:v.oR) (s:St):aD Tryz.prog p9 [.agg (bh v)] s (.slice .shared 1 (v.said.map encStr)) s:=by
 refine aD.pure ?_ (by simp only [D.bT,D.ok,mC];rfl) (by simp only [D.ok,Tag.ok,eI];rfl) s
 obtain⟨ht1,Pn,ep⟩:=hv
 obtain⟨R,hG⟩ : ∃ R,v.said=R:=⟨_,rfl⟩
 rw [hG]
 simp only [Sm.said]at hG
 have hlen:v.args.length<1000000000:=by have:=Ar.c9 v.args;omega
 have hx:=fun s=>mc (x:=v.x) (by omega) ht1 s
 have Jf:=kb v.x
 unfold S0
 refine aD.go Db rfl fun B Q hB hQ=> ?_
 have⟨hC,hE,hF,hM⟩:=bL
 have hF:17≤bQ:=by unfold bQ;omega
 by_cases hb:(v.kind != 10 && v.name != [])=true
 ·simp only [Sm.sR,hb,if_true]at hG
  rw [Bool.and_eq_true]at hb
  obtain⟨b1,b2⟩:=hb
  have fQ:=jJ (l:= [v.name]) (nx:=v.x.names) (n:=1) rfl (by simp;omega) (g:= .shared)
  simp only [List.map_append,List.map_cons,List.map_nil,encStr]at fQ
  have b3:(v.name == [])=false:=by simpa using b2
  repeat' (first
 | simp only [go_sem,hC,hE,hF,hM,b1,b2,b3,fQ]
 | (with_reducible refine CU (hx _) ?_)
 | (with_reducible refine aH hQ ?_;simp only [aA,aB,Option.some.injEq,exists_eq_left',go_sem,hC,hE,hF,hM];repeat' (first | exact Ok.out | with_reducible refine aJ ?_ ?_ | (simp;done))))
  refine dV 1 1 ?_ ?_ (bw.ind (ι:=List Ar×Nat×List ay×Nat) (fun i=>v.args.drop i.2.1=i.1∧Ar.said i.2.2.1 i.1=R∧i.2.2.1.length+Ar.aR i.1≤2000000∧i.2.2.2=i.2.2.1.length) (fun i=>i.1.length)
   (fun i=> [(3, .slice (.tok 0) 1 (i.2.2.1.map encStr)),(1, .ptr 0 0),(25, .slice .shared 6 (v.args.map ek)),(26, .int .i64 (v.args.length:Int)),(27, .int .i64 (i.2.1:Int))]) (fun i=>⟨[bh v],[some i.2.2.2]⟩) ?_ (v.args,0,([v.name]++v.x.names),(v.x.names.length+1)) ⟨rfl,hG,by simp at Jf ⊢;omega,by simp⟩)
  ·(simp only [go_sem,hC,hE,hF,hM,List.map_append,List.map_cons,List.map_nil,encStr];try exact bR)
  ·(simp only [go_sem,hC,hE,hF,hM,List.map_append,List.map_cons,List.map_nil,encStr];try exact bR)
  rintro⟨rest,k,out,n'⟩ ⟨h1,h2,h3,h4⟩ IH
  dsimp only at h1 h2 h3 h4
  subst h4
  cases rest with
  | nil=>
   have hC:=drop_nil h1
   simp only [Ar.said]at h2
   subst h2
   repeat' (first
 | simp only [go_sem,hC,hE,hF,hM]
 | (with_reducible refine aH hQ ?_;simp only [aA,aB,Option.some.injEq,exists_eq_left',go_sem,hC,hE,hF,hM];repeat' (first | exact Ok.out | with_reducible refine aJ ?_ ?_ | (simp;done))))
  | cons a rest=>
   obtain⟨hE,g2,hC,g4⟩:=drop_cons h1
   have bS:k<4611686018427387904:=by omega
   simp only [Ar.said]at h2
   simp only [Ar.aR]at h3
   have uN:=fun s=>mc (x:=a.x) (by have:=Ar.cd (List.mem_of_getElem? hE);omega) (Pn a (List.mem_of_getElem? hE)) s
   have hl:=kb a.x
   have hF:(out.length+1)*17≤bQ:=by unfold bQ;omega
   rcases Bool.eq_false_or_eq_true a.ref with b1 | b1
   ·simp only [b1,if_true]at h2
    have fQ:=jJ (l:=out++ [a.name]) (nx:=a.x.names) (n:=out.length+1) (by simp) (by simp;omega) (g:= .shared)
    simp only [List.map_append,List.map_cons,List.map_nil,encStr]at fQ
    repeat' (first
 | simp only [go_sem,hC,hE,hF,hM,b1,fQ]
 | (with_reducible refine CU (uN _) ?_)
 | (with_reducible refine aH hQ ?_;simp only [aA,aB,Option.some.injEq,exists_eq_left',go_sem,hC,hE,hF,hM];repeat' (first | exact Ok.out | with_reducible refine aJ ?_ ?_ | (simp;done))))
    refine dV 1 1 ?_ ?_ (IH (rest,k+1,out++ [a.name]++a.x.names,_) ⟨g2,h2,by simp;omega,by simp <;> omega⟩ (Nat.lt_succ_self _))
    ·(simp only [go_sem,hC,hE,hF,hM,aP bS,List.map_append,List.map_cons,List.map_nil,encStr];try exact bR)
    ·(simp only [go_sem,hC,hE,hF,hM,aP bS,List.map_append,List.map_cons,List.map_nil,encStr];try exact bR)
   ·simp only [b1,Bool.false_eq_true,if_false]at h2
    have fQ:=jJ (l:=out) (nx:=a.x.names) rfl (by omega) (g:= .shared)
    repeat' (first
 | simp only [go_sem,hC,hE,hF,hM,b1,fQ]
 | (with_reducible refine CU (uN _) ?_)
 | (with_reducible refine aH hQ ?_;simp only [aA,aB,Option.some.injEq,exists_eq_left',go_sem,hC,hE,hF,hM];repeat' (first | exact Ok.out | with_reducible refine aJ ?_ ?_ | (simp;done))))
    refine dV 1 1 ?_ ?_ (IH (rest,k+1,out++a.x.names,_) ⟨g2,h2,by simp;omega,by simp <;> omega⟩ (Nat.lt_succ_self _))
    ·(simp only [go_sem,hC,hE,hF,hM,aP bS];try exact bR)
    ·(simp only [go_sem,hC,hE,hF,hM,aP bS];try exact bR)
 ·simp only [Sm.sR,hb,Bool.false_eq_true,if_false,List.nil_append]at hG
  have uy:(v.kind != 10 && v.name != [])=false:=by simpa using hb
  obtain⟨nx,hnx⟩ : ∃ nx,nx=v.x.names:=⟨_,rfl⟩
  rw [← hnx]at hG Jf
  simp only [← hnx]at hx
  by_cases Bq:nx = []
  ·subst Bq
   simp only [List.map_nil]at hx
   have fQ : ∀ o:List (List D),kp 1 16 (.slice .full 0 []) (.slice .shared 1 []) ⟨o,[]⟩=some (.slice .full 0 [],⟨o,[]⟩):=fun o=>by simp [kp,bQ]
   have HB:(v.kind != 10)=false∨(v.kind != 10)=true∧(v.name != [])=false:=by
    cases h1:(v.kind != 10)
    ·exact .inl rfl
    ·rw [h1]at uy;exact .inr ⟨rfl,by simpa using uy⟩
   rcases HB with b1 | ⟨b1,b2⟩
   ·rcases Bool.eq_false_or_eq_true (v.name != [])with b2 | b2
    all_goals
     have b3:(v.name == []) = !(v.name != []):=by simp only [bne,Bool.not_not]
     rw [b2]at b3
     repeat' (first
 | simp only [go_sem,hC,hE,hF,hM,b1,b2,b3,Bool.not_true,Bool.not_false,fQ]
 | (with_reducible refine CU (hx _) ?_)
 | (with_reducible refine aH hQ ?_;simp only [aA,aB,Option.some.injEq,exists_eq_left',go_sem,hC,hE,hF,hM];repeat' (first | exact Ok.out | with_reducible refine aJ ?_ ?_ | (simp;done))))
    all_goals
     refine bw.pf 3 1 rfl ?_
     simp only [go_sem,hC,hE,hF,hM]
     refine dc 1 1 (bw.ind (ι:=List Ar×Nat×List ay×Nat) (fun i=>v.args.drop i.2.1=i.1∧Ar.said i.2.2.1 i.1=R∧i.2.2.1.length+Ar.aR i.1≤2000000∧i.2.2.2=i.2.2.1.length) (fun i=>i.1.length)
      (fun i=> [(3, .slice (.tok 0) 1 (i.2.2.1.map encStr)),(1, .ptr 0 0),(25, .slice .shared 6 (v.args.map ek)),(26, .int .i64 (v.args.length:Int)),(27, .int .i64 (i.2.1:Int))]) (fun i=>⟨[bh v],[some i.2.2.2]⟩) ?_ (v.args,0,[],0) ⟨rfl,hG,by simp at Jf ⊢;omega,by simp⟩)
     rintro⟨rest,k,out,n'⟩ ⟨h1,h2,h3,h4⟩ IH
     dsimp only at h1 h2 h3 h4
     subst h4
     cases rest with
     | nil=>
      have hC:=drop_nil h1
      simp only [Ar.said]at h2
      subst h2
      repeat' (first
 | simp only [go_sem,hC,hE,hF,hM]
 | (with_reducible refine aH hQ ?_;simp only [aA,aB,Option.some.injEq,exists_eq_left',go_sem,hC,hE,hF,hM];repeat' (first | exact Ok.out | with_reducible refine aJ ?_ ?_ | (simp;done))))
     | cons a rest=>
      obtain⟨hE,g2,hC,g4⟩:=drop_cons h1
      have bS:k<4611686018427387904:=by omega
      simp only [Ar.said]at h2
      simp only [Ar.aR]at h3
      have uN:=fun s=>mc (x:=a.x) (by have:=Ar.cd (List.mem_of_getElem? hE);omega) (Pn a (List.mem_of_getElem? hE)) s
      have hl:=kb a.x
      have hF:(out.length+1)*17≤bQ:=by unfold bQ;omega
      rcases Bool.eq_false_or_eq_true a.ref with b1 | b1
      ·simp only [b1,if_true]at h2
       have fQ:=jJ (l:=out++ [a.name]) (nx:=a.x.names) (n:=out.length+1) (by simp) (by simp;omega) (g:= .shared)
       simp only [List.map_append,List.map_cons,List.map_nil,encStr]at fQ
       repeat' (first
 | simp only [go_sem,hC,hE,hF,hM,b1,fQ]
 | (with_reducible refine CU (uN _) ?_)
 | (with_reducible refine aH hQ ?_;simp only [aA,aB,Option.some.injEq,exists_eq_left',go_sem,hC,hE,hF,hM];repeat' (first | exact Ok.out | with_reducible refine aJ ?_ ?_ | (simp;done))))
       refine dV 1 1 ?_ ?_ (IH (rest,k+1,out++ [a.name]++a.x.names,_) ⟨g2,h2,by simp;omega,by simp <;> omega⟩ (Nat.lt_succ_self _))
       ·(simp only [go_sem,hC,hE,hF,hM,aP bS,List.map_append,List.map_cons,List.map_nil,encStr];try exact bR)
       ·(simp only [go_sem,hC,hE,hF,hM,aP bS,List.map_append,List.map_cons,List.map_nil,encStr];try exact bR)
      ·simp only [b1,Bool.false_eq_true,if_false]at h2
       have fQ:=jJ (l:=out) (nx:=a.x.names) rfl (by omega) (g:= .shared)
       repeat' (first
 | simp only [go_sem,hC,hE,hF,hM,b1,fQ]
 | (with_reducible refine CU (uN _) ?_)
 | (with_reducible refine aH hQ ?_;simp only [aA,aB,Option.some.injEq,exists_eq_left',go_sem,hC,hE,hF,hM];repeat' (first | exact Ok.out | with_reducible refine aJ ?_ ?_ | (simp;done))))
       refine dV 1 1 ?_ ?_ (IH (rest,k+1,out++a.x.names,_) ⟨g2,h2,by simp;omega,by simp <;> omega⟩ (Nat.lt_succ_self _))
       ·(simp only [go_sem,hC,hE,hF,hM,aP bS];try exact bR)
       ·(simp only [go_sem,hC,hE,hF,hM,aP bS];try exact bR)
   ·have b3:(v.name == [])=true:=by simpa using b2
    repeat' (first
 | simp only [go_sem,hC,hE,hF,hM,b1,b2,b3,fQ]
 | (with_reducible refine CU (hx _) ?_)
 | (with_reducible refine aH hQ ?_;simp only [aA,aB,Option.some.injEq,exists_eq_left',go_sem,hC,hE,hF,hM];repeat' (first | exact Ok.out | with_reducible refine aJ ?_ ?_ | (simp;done))))
    refine bw.pf 3 1 rfl ?_
    simp only [go_sem,hC,hE,hF,hM]
    refine dc 1 1 (bw.ind (ι:=List Ar×Nat×List ay×Nat) (fun i=>v.args.drop i.2.1=i.1∧Ar.said i.2.2.1 i.1=R∧i.2.2.1.length+Ar.aR i.1≤2000000∧i.2.2.2=i.2.2.1.length) (fun i=>i.1.length)
     (fun i=> [(3, .slice (.tok 0) 1 (i.2.2.1.map encStr)),(1, .ptr 0 0),(25, .slice .shared 6 (v.args.map ek)),(26, .int .i64 (v.args.length:Int)),(27, .int .i64 (i.2.1:Int))]) (fun i=>⟨[bh v],[some i.2.2.2]⟩) ?_ (v.args,0,[],0) ⟨rfl,hG,by simp at Jf ⊢;omega,by simp⟩)
    rintro⟨rest,k,out,n'⟩ ⟨h1,h2,h3,h4⟩ IH
    dsimp only at h1 h2 h3 h4
    subst h4
    cases rest with
    | nil=>
     have hC:=drop_nil h1
     simp only [Ar.said]at h2
     subst h2
     repeat' (first
 | simp only [go_sem,hC,hE,hF,hM]
 | (with_reducible refine aH hQ ?_;simp only [aA,aB,Option.some.injEq,exists_eq_left',go_sem,hC,hE,hF,hM];repeat' (first | exact Ok.out | with_reducible refine aJ ?_ ?_ | (simp;done))))
    | cons a rest=>
     obtain⟨hE,g2,hC,g4⟩:=drop_cons h1
     have bS:k<4611686018427387904:=by omega
     simp only [Ar.said]at h2
     simp only [Ar.aR]at h3
     have uN:=fun s=>mc (x:=a.x) (by have:=Ar.cd (List.mem_of_getElem? hE);omega) (Pn a (List.mem_of_getElem? hE)) s
     have hl:=kb a.x
     have hF:(out.length+1)*17≤bQ:=by unfold bQ;omega
     rcases Bool.eq_false_or_eq_true a.ref with b1 | b1
     ·simp only [b1,if_true]at h2
      have fQ:=jJ (l:=out++ [a.name]) (nx:=a.x.names) (n:=out.length+1) (by simp) (by simp;omega) (g:= .shared)
      simp only [List.map_append,List.map_cons,List.map_nil,encStr]at fQ
      repeat' (first
 | simp only [go_sem,hC,hE,hF,hM,b1,fQ]
 | (with_reducible refine CU (uN _) ?_)
 | (with_reducible refine aH hQ ?_;simp only [aA,aB,Option.some.injEq,exists_eq_left',go_sem,hC,hE,hF,hM];repeat' (first | exact Ok.out | with_reducible refine aJ ?_ ?_ | (simp;done))))
      refine dV 1 1 ?_ ?_ (IH (rest,k+1,out++ [a.name]++a.x.names,_) ⟨g2,h2,by simp;omega,by simp <;> omega⟩ (Nat.lt_succ_self _))
      ·(simp only [go_sem,hC,hE,hF,hM,aP bS,List.map_append,List.map_cons,List.map_nil,encStr];try exact bR)
      ·(simp only [go_sem,hC,hE,hF,hM,aP bS,List.map_append,List.map_cons,List.map_nil,encStr];try exact bR)
     ·simp only [b1,Bool.false_eq_true,if_false]at h2
      have fQ:=jJ (l:=out) (nx:=a.x.names) rfl (by omega) (g:= .shared)
      repeat' (first
 | simp only [go_sem,hC,hE,hF,hM,b1,fQ]
 | (with_reducible refine CU (uN _) ?_)
 | (with_reducible refine aH hQ ?_;simp only [aA,aB,Option.some.injEq,exists_eq_left',go_sem,hC,hE,hF,hM];repeat' (first | exact Ok.out | with_reducible refine aJ ?_ ?_ | (simp;done))))
      refine dV 1 1 ?_ ?_ (IH (rest,k+1,out++a.x.names,_) ⟨g2,h2,by simp;omega,by simp <;> omega⟩ (Nat.lt_succ_self _))
      ·(simp only [go_sem,hC,hE,hF,hM,aP bS];try exact bR)
      ·(simp only [go_sem,hC,hE,hF,hM,aP bS];try exact bR)
  ·have fQ : ∀ o:List (List D),kp 1 16 (.slice .full 0 []) (.slice .shared 1 (nx.map encStr)) ⟨o,[]⟩=some (.slice (.tok 0) 1 (nx.map encStr),⟨o,[some nx.length]⟩):=fun o=>by
    have:nx.length*17≤bQ:=by unfold bQ;omega
    cases nx with
    | nil=>exact absurd rfl Bq
    | cons a r=>simp only [List.length_cons]at this;simp [kp,this]
   have HB:(v.kind != 10)=false∨(v.kind != 10)=true∧(v.name != [])=false:=by
    cases h1:(v.kind != 10)
    ·exact .inl rfl
    ·rw [h1]at uy;exact .inr ⟨rfl,by simpa using uy⟩
   rcases HB with b1 | ⟨b1,b2⟩
   ·rcases Bool.eq_false_or_eq_true (v.name != [])with b2 | b2
    all_goals
     have b3:(v.name == []) = !(v.name != []):=by simp only [bne,Bool.not_not]
     rw [b2]at b3
     repeat' (first
 | simp only [go_sem,hC,hE,hF,hM,b1,b2,b3,Bool.not_true,Bool.not_false,fQ]
 | (with_reducible refine CU (hx _) ?_)
 | (with_reducible refine aH hQ ?_;simp only [aA,aB,Option.some.injEq,exists_eq_left',go_sem,hC,hE,hF,hM];repeat' (first | exact Ok.out | with_reducible refine aJ ?_ ?_ | (simp;done))))
    all_goals
     refine dc 1 1 (bw.ind (ι:=List Ar×Nat×List ay×Nat) (fun i=>v.args.drop i.2.1=i.1∧Ar.said i.2.2.1 i.1=R∧i.2.2.1.length+Ar.aR i.1≤2000000∧i.2.2.2=i.2.2.1.length) (fun i=>i.1.length)
      (fun i=> [(3, .slice (.tok 0) 1 (i.2.2.1.map encStr)),(1, .ptr 0 0),(25, .slice .shared 6 (v.args.map ek)),(26, .int .i64 (v.args.length:Int)),(27, .int .i64 (i.2.1:Int))]) (fun i=>⟨[bh v],[some i.2.2.2]⟩) ?_ (v.args,0,nx,_) ⟨rfl,hG,by simp at Jf ⊢;omega,by simp⟩)
     rintro⟨rest,k,out,n'⟩ ⟨h1,h2,h3,h4⟩ IH
     dsimp only at h1 h2 h3 h4
     subst h4
     cases rest with
     | nil=>
      have hC:=drop_nil h1
      simp only [Ar.said]at h2
      subst h2
      repeat' (first
 | simp only [go_sem,hC,hE,hF,hM]
 | (with_reducible refine aH hQ ?_;simp only [aA,aB,Option.some.injEq,exists_eq_left',go_sem,hC,hE,hF,hM];repeat' (first | exact Ok.out | with_reducible refine aJ ?_ ?_ | (simp;done))))
     | cons a rest=>
      obtain⟨hE,g2,hC,g4⟩:=drop_cons h1
      have bS:k<4611686018427387904:=by omega
      simp only [Ar.said]at h2
      simp only [Ar.aR]at h3
      have uN:=fun s=>mc (x:=a.x) (by have:=Ar.cd (List.mem_of_getElem? hE);omega) (Pn a (List.mem_of_getElem? hE)) s
      have hl:=kb a.x
      have hF:(out.length+1)*17≤bQ:=by unfold bQ;omega
      rcases Bool.eq_false_or_eq_true a.ref with b1 | b1
      ·simp only [b1,if_true]at h2
       have fQ:=jJ (l:=out++ [a.name]) (nx:=a.x.names) (n:=out.length+1) (by simp) (by simp;omega) (g:= .shared)
       simp only [List.map_append,List.map_cons,List.map_nil,encStr]at fQ
       repeat' (first
 | simp only [go_sem,hC,hE,hF,hM,b1,fQ]
 | (with_reducible refine CU (uN _) ?_)
 | (with_reducible refine aH hQ ?_;simp only [aA,aB,Option.some.injEq,exists_eq_left',go_sem,hC,hE,hF,hM];repeat' (first | exact Ok.out | with_reducible refine aJ ?_ ?_ | (simp;done))))
       refine dV 1 1 ?_ ?_ (IH (rest,k+1,out++ [a.name]++a.x.names,_) ⟨g2,h2,by simp;omega,by simp <;> omega⟩ (Nat.lt_succ_self _))
       ·(simp only [go_sem,hC,hE,hF,hM,aP bS,List.map_append,List.map_cons,List.map_nil,encStr];try exact bR)
       ·(simp only [go_sem,hC,hE,hF,hM,aP bS,List.map_append,List.map_cons,List.map_nil,encStr];try exact bR)
      ·simp only [b1,Bool.false_eq_true,if_false]at h2
       have fQ:=jJ (l:=out) (nx:=a.x.names) rfl (by omega) (g:= .shared)
       repeat' (first
 | simp only [go_sem,hC,hE,hF,hM,b1,fQ]
 | (with_reducible refine CU (uN _) ?_)
 | (with_reducible refine aH hQ ?_;simp only [aA,aB,Option.some.injEq,exists_eq_left',go_sem,hC,hE,hF,hM];repeat' (first | exact Ok.out | with_reducible refine aJ ?_ ?_ | (simp;done))))
       refine dV 1 1 ?_ ?_ (IH (rest,k+1,out++a.x.names,_) ⟨g2,h2,by simp;omega,by simp <;> omega⟩ (Nat.lt_succ_self _))
       ·(simp only [go_sem,hC,hE,hF,hM,aP bS];try exact bR)
       ·(simp only [go_sem,hC,hE,hF,hM,aP bS];try exact bR)
   ·have b3:(v.name == [])=true:=by simpa using b2
    repeat' (first
 | simp only [go_sem,hC,hE,hF,hM,b1,b2,b3,fQ]
 | (with_reducible refine CU (hx _) ?_)
 | (with_reducible refine aH hQ ?_;simp only [aA,aB,Option.some.injEq,exists_eq_left',go_sem,hC,hE,hF,hM];repeat' (first | exact Ok.out | with_reducible refine aJ ?_ ?_ | (simp;done))))
    refine dc 1 1 (bw.ind (ι:=List Ar×Nat×List ay×Nat) (fun i=>v.args.drop i.2.1=i.1∧Ar.said i.2.2.1 i.1=R∧i.2.2.1.length+Ar.aR i.1≤2000000∧i.2.2.2=i.2.2.1.length) (fun i=>i.1.length)
     (fun i=> [(3, .slice (.tok 0) 1 (i.2.2.1.map encStr)),(1, .ptr 0 0),(25, .slice .shared 6 (v.args.map ek)),(26, .int .i64 (v.args.length:Int)),(27, .int .i64 (i.2.1:Int))]) (fun i=>⟨[bh v],[some i.2.2.2]⟩) ?_ (v.args,0,nx,_) ⟨rfl,hG,by simp at Jf ⊢;omega,by simp⟩)
    rintro⟨rest,k,out,n'⟩ ⟨h1,h2,h3,h4⟩ IH
    dsimp only at h1 h2 h3 h4
    subst h4
    cases rest with
    | nil=>
     have hC:=drop_nil h1
     simp only [Ar.said]at h2
     subst h2
     repeat' (first
 | simp only [go_sem,hC,hE,hF,hM]
 | (with_reducible refine aH hQ ?_;simp only [aA,aB,Option.some.injEq,exists_eq_left',go_sem,hC,hE,hF,hM];repeat' (first | exact Ok.out | with_reducible refine aJ ?_ ?_ | (simp;done))))
    | cons a rest=>
     obtain⟨hE,g2,hC,g4⟩:=drop_cons h1
     have bS:k<4611686018427387904:=by omega
     simp only [Ar.said]at h2
     simp only [Ar.aR]at h3
     have uN:=fun s=>mc (x:=a.x) (by have:=Ar.cd (List.mem_of_getElem? hE);omega) (Pn a (List.mem_of_getElem? hE)) s
     have hl:=kb a.x
     have hF:(out.length+1)*17≤bQ:=by unfold bQ;omega
     rcases Bool.eq_false_or_eq_true a.ref with b1 | b1
     ·simp only [b1,if_true]at h2
      have fQ:=jJ (l:=out++ [a.name]) (nx:=a.x.names) (n:=out.length+1) (by simp) (by simp;omega) (g:= .shared)
      simp only [List.map_append,List.map_cons,List.map_nil,encStr]at fQ
      repeat' (first
 | simp only [go_sem,hC,hE,hF,hM,b1,fQ]
 | (with_reducible refine CU (uN _) ?_)
 | (with_reducible refine aH hQ ?_;simp only [aA,aB,Option.some.injEq,exists_eq_left',go_sem,hC,hE,hF,hM];repeat' (first | exact Ok.out | with_reducible refine aJ ?_ ?_ | (simp;done))))
      refine dV 1 1 ?_ ?_ (IH (rest,k+1,out++ [a.name]++a.x.names,_) ⟨g2,h2,by simp;omega,by simp <;> omega⟩ (Nat.lt_succ_self _))
      ·(simp only [go_sem,hC,hE,hF,hM,aP bS,List.map_append,List.map_cons,List.map_nil,encStr];try exact bR)
      ·(simp only [go_sem,hC,hE,hF,hM,aP bS,List.map_append,List.map_cons,List.map_nil,encStr];try exact bR)
     ·simp only [b1,Bool.false_eq_true,if_false]at h2
      have fQ:=jJ (l:=out) (nx:=a.x.names) rfl (by omega) (g:= .shared)
      repeat' (first
 | simp only [go_sem,hC,hE,hF,hM,b1,fQ]
 | (with_reducible refine CU (uN _) ?_)
 | (with_reducible refine aH hQ ?_;simp only [aA,aB,Option.some.injEq,exists_eq_left',go_sem,hC,hE,hF,hM];repeat' (first | exact Ok.out | with_reducible refine aJ ?_ ?_ | (simp;done))))
      refine dV 1 1 ?_ ?_ (IH (rest,k+1,out++a.x.names,_) ⟨g2,h2,by simp;omega,by simp <;> omega⟩ (Nat.lt_succ_self _))
      ·(simp only [go_sem,hC,hE,hF,hM,aP bS];try exact bR)
      ·(simp only [go_sem,hC,hE,hF,hM,aP bS];try exact bR)
end Go.Abs

/-! MayEq2 -/

namespace Go.Abs
theorem jV : ∀ (a b:List It) (n:Nat),It.cY n (a++b)=(It.cY n a && It.cY (n+a.length) b)
 | [],b,n=>by simp [It.cY]
 | i::a,b,n=>by
  simp only [List.cons_append,It.cY,jV a b (n+1),List.length_cons]
  have:n+1+a.length=n+(a.length+1):=by omega
  rw [this]
  split <;> simp
theorem B3 (n:Nat) (i:It):It.cY n [i] = true↔i.s.id=((n+1:Nat):Int)∧i.deep≤12∧i.s.one=true:=by
 simp only [It.cY]
 split
 ·rename_i h
  simp only [Bool.or_eq_true,bne_iff_ne,ne_eq,decide_eq_true_eq,Bool.not_eq_true']at h
  refine⟨fun h=>(Bool.false_ne_true h).elim,fun⟨h1,h2,h3⟩=> ?_⟩
  rcases h with (h | h) | h
  ·exact(h h1).elim
  ·omega
  ·rw [h]at h3;cases h3
 ·rename_i h
  simp only [Bool.or_eq_true,bne_iff_ne,ne_eq,decide_eq_true_eq,Bool.not_eq_true',not_or,Decidable.not_not,Bool.not_eq_false]at h
  exact⟨fun _=>⟨h.1.1,by omega,h.2⟩,fun _=>rfl⟩
mutual
theorem y2 (deep b5:Int) (aX:Bool) : ∀ (s:Sm) (out:List It),∃ new,iA deep b5 aX out s=out++(⟨s,deep,b5,aX⟩::new)
 | ⟨id,kind,labels,name,proc,x,has,args,a7,e⟩,out=>by
  simp only [iA]
  split
  ·obtain⟨n1,h1⟩:=pG (deep+1) id false a7 (out++ [⟨⟨id,kind,labels,name,proc,x,has,args,a7,e⟩,deep,b5,aX⟩])
   obtain⟨n2,h2⟩:=pG (deep+1) id true e (eQ (deep+1) id false (out++ [⟨⟨id,kind,labels,name,proc,x,has,args,a7,e⟩,deep,b5,aX⟩]) a7)
   rw [h2,h1]
   exact⟨n1++n2,by simp⟩
  ·exact⟨[],rfl⟩
theorem pG (deep b5:Int) (aX:Bool) : ∀ (l:List Sm) (out:List It),∃ new,eQ deep b5 aX out l=out++new
 | [],out=>⟨[],by simp [eQ]⟩
 | s::l,out=>by
  simp only [eQ]
  split
  ·obtain⟨n1,h1⟩:=y2 deep b5 aX s out
   obtain⟨n2,h2⟩:=pG deep b5 aX l (iA deep b5 aX out s)
   rw [h2,h1]
   exact⟨⟨s,deep,b5,aX⟩::n1++n2,by simp⟩
  ·exact⟨[],by simp⟩
end
theorem D6 {nest:Int} {n:Nat} {s:Sm} (h:(Sm.oB nest n s).1=true) :
 n+1≤200∧s.id=((n+1:Nat):Int)∧s.one=true∧(Sm.fA (nest+1) (n+1) s.a7).1=true∧(Sm.fA (nest+1) (Sm.fA (nest+1) (n+1) s.a7).2 s.aX).1=true∧
 (Sm.oB nest n s).2=(Sm.fA (nest+1) (Sm.fA (nest+1) (n+1) s.a7).2 s.aX).2:=by
 rw [Dm]at h ⊢
 split at h
 ·cases h
 rename_i h1
 simp only [Bool.or_eq_true,bne_iff_ne,ne_eq,decide_eq_true_eq,Bool.not_eq_true',not_or,Decidable.not_not,Bool.not_eq_false]at h1
 split at h
 ·cases h
 rename_i h2
 have vS:(Sm.fA (nest+1) (n+1) s.a7).1=true:=by simpa using h2
 refine⟨by omega,h1.1.1.2, ?_,vS,h, ?_⟩
 ·rw [B2,h1.1.2,h1.2];rfl
 ·rw [if_neg (by simp only [Bool.or_eq_true,bne_iff_ne,ne_eq,decide_eq_true_eq,Bool.not_eq_true',not_or,Decidable.not_not,Bool.not_eq_false];exact h1),if_neg h2]
theorem rP {nest:Int} {n:Nat} {l:List Sm} (h:(Sm.fA nest n l).1=true):(l = []∨nest≤12)∧Sm.fA nest n l=Sm.eA nest n l:=by
 unfold Sm.fA gate at *
 split at h
 ·cases h
 ·rename_i hc
  rw [if_neg hc]
  refine⟨?_,rfl⟩
  simp only [Bool.and_eq_true,decide_eq_true_eq,not_and]at hc
  cases l with
  | nil=>exact .inl rfl
  | cons s l=>right;simp only [List.length_cons]at hc;omega
mutual
theorem Po : ∀ (s:Sm) (nest b5:Int) (aX:Bool) (n:Nat) (out:List It),nest≤12→out.length≤n→n≤200→(Sm.oB nest n s).1=true→
 ∃ new,iA nest b5 aX out s=out++new∧It.cY n new=true∧n+new.length=(Sm.oB nest n s).2∧(Sm.oB nest n s).2≤200
 | ⟨id,kind,labels,name,proc,x,has,args,a7,e⟩,nest,b5,aX,n,out,wy,ho,hn,h=>by
  obtain⟨h1,h2,h3,h4,h5,h6⟩:=D6 h
  dsimp only at h2 h4 h5 h6
  rw [h6]
  obtain⟨g1,e1⟩:=rP h4
  rw [e1]at h4 h5 ⊢
  obtain⟨g2,e2⟩:=rP h5
  rw [e2]at h5 ⊢
  have wz:It.cY n [(⟨⟨id,kind,labels,name,proc,x,has,args,a7,e⟩,nest,b5,aX⟩:It)] = true:=(B3 _ _).2 ⟨h2,wy,h3⟩
  obtain⟨n1,k1,k2,k3,k4⟩:=uO a7 (nest+1) id false (n+1) (out++ [⟨⟨id,kind,labels,name,proc,x,has,args,a7,e⟩,nest,b5,aX⟩]) g1 (by simp;omega) h1 h4
  obtain⟨n2,j1,j2,j3,j4⟩:=uO e (nest+1) id true _ (out++ [⟨⟨id,kind,labels,name,proc,x,has,args,a7,e⟩,nest,b5,aX⟩]++n1) g2 (by simp;omega) k4 h5
  simp only [iA]
  rw [if_pos (by simpa using wy),k1,j1]
  refine⟨⟨⟨id,kind,labels,name,proc,x,has,args,a7,e⟩,nest,b5,aX⟩::(n1++n2),by simp, ?_, ?_,j4⟩
  ·have:(⟨⟨id,kind,labels,name,proc,x,has,args,a7,e⟩,nest,b5,aX⟩:It)::(n1++n2) = [⟨⟨id,kind,labels,name,proc,x,has,args,a7,e⟩,nest,b5,aX⟩]++n1++n2:=by simp
   rw [this,jV,jV,wz,Bool.true_and]
   have e3:n+([(⟨⟨id,kind,labels,name,proc,x,has,args,a7,e⟩,nest,b5,aX⟩:It)]++n1).length=(Sm.eA (nest+1) (n+1) a7).2:=by simp;omega
   rw [e3,j2]
   have e4:n + [(⟨⟨id,kind,labels,name,proc,x,has,args,a7,e⟩,nest,b5,aX⟩:It)].length=n+1:=rfl
   rw [e4,k2];rfl
  ·simp only [List.length_cons,List.length_append];omega
theorem uO : ∀ (l:List Sm) (nest b5:Int) (aX:Bool) (n:Nat) (out:List It),(l = []∨nest≤12)→out.length≤n→n≤200→(Sm.eA nest n l).1=true→
 ∃ new,eQ nest b5 aX out l=out++new∧It.cY n new=true∧n+new.length=(Sm.eA nest n l).2∧(Sm.eA nest n l).2≤200
 | [],nest,b5,aX,n,out,wy,ho,hn,h=>⟨[],by simp [eQ],rfl,by simp [Sm.eA],by simpa [Sm.eA]using hn⟩
 | s::l,nest,b5,aX,n,out,wy,ho,hn,h=>by
  have aaf:nest≤12:=wy.resolve_left (by simp)
  simp only [Sm.eA]at h ⊢
  split at h
  ·cases h
  rename_i hc
  rw [if_neg hc]
  obtain⟨n1,k1,k2,k3,k4⟩:=Po s nest b5 aX n out aaf ho hn (by simpa using hc)
  obtain⟨n2,j1,j2,j3,j4⟩:=uO l nest b5 aX _ (out++n1) (.inr aaf) (by simp;omega) k4 h
  simp only [eQ]
  rw [if_pos (by simp only [decide_eq_true_eq];omega),k1,j1]
  refine⟨n1++n2,by simp, ?_,by simp;omega,j4⟩
  rw [jV,k2,k3,j2];rfl
end
mutual
theorem Pp : ∀ (s:Sm) (nest b5:Int) (aX:Bool) (n:Nat) (out new:List It),iA nest b5 aX out s=out++new→It.cY n new=true→out.length≤n→n+new.length≤200→
 Sm.oB nest n s=(true,n+new.length)∧nest≤12
 | ⟨id,kind,labels,name,proc,x,has,args,a7,e⟩,nest,b5,aX,n,out,new,qC,hm,ho,hn=>by
  obtain⟨n0,h0⟩:=y2 nest b5 aX ⟨id,kind,labels,name,proc,x,has,args,a7,e⟩ out
  have e0:new = ⟨⟨id,kind,labels,name,proc,x,has,args,a7,e⟩,nest,b5,aX⟩::n0:=List.append_cancel_left (qC.symm.trans h0)
  subst e0
  have adO:(⟨⟨id,kind,labels,name,proc,x,has,args,a7,e⟩,nest,b5,aX⟩:It)::n0 = [⟨⟨id,kind,labels,name,proc,x,has,args,a7,e⟩,nest,b5,aX⟩]++n0:=rfl
  rw [adO,jV,Bool.and_eq_true]at hm
  obtain⟨G0,Ad⟩:=hm
  obtain⟨c1,c2,c3⟩:=(B3 _ _).1 G0
  dsimp only at c1 c2 c3
  simp only [List.length_cons]at hn ⊢
  have SX:eQ (nest+1) id true (eQ (nest+1) id false (out++ [⟨⟨id,kind,labels,name,proc,x,has,args,a7,e⟩,nest,b5,aX⟩]) a7) e=out++([⟨⟨id,kind,labels,name,proc,x,has,args,a7,e⟩,nest,b5,aX⟩]++n0):=by
   simp only [iA]at qC
   rw [if_pos (by simpa using c2)]at qC
   exact qC
  obtain⟨n1,g1⟩:=pG (nest+1) id false a7 (out++ [⟨⟨id,kind,labels,name,proc,x,has,args,a7,e⟩,nest,b5,aX⟩])
  obtain⟨n2,g2⟩:=pG (nest+1) id true e (eQ (nest+1) id false (out++ [⟨⟨id,kind,labels,name,proc,x,has,args,a7,e⟩,nest,b5,aX⟩]) a7)
  have en:n0=n1++n2:=by
   rw [g2,g1]at SX
   simp only [List.append_assoc,List.append_cancel_left_eq]at SX
   exact SX.symm
  subst en
  have SY:It.cY (n+1) (n1++n2)=true:=Ad
  rw [jV,Bool.and_eq_true]at SY
  simp only [List.length_append]at hn ⊢
  obtain⟨r1,r2⟩:=uP a7 (nest+1) id false (n+1) _ n1 g1 SY.1 (by simp;omega) (by omega)
  obtain⟨q1,q2⟩:=uP e (nest+1) id true (n+1+n1.length) _ n2 g2 SY.2 (by rw [g1];simp;omega) (by omega)
  refine⟨?_,c2⟩
  have gg : ∀ {l:List Sm} {m:Nat} {r:Bool×Nat},Sm.eA (nest+1) m l=r→(l = []∨nest+1≤12)→Sm.fA (nest+1) m l=r:=by
   intro l m r h1 h2
   unfold Sm.fA gate
   rw [if_neg]
   ·exact h1
   ·simp only [Bool.and_eq_true,decide_eq_true_eq,not_and]
    rcases h2 with h2 | h2
    ·subst h2;simp
    ·omega
  have t1:=gg r1 r2
  have t2:=gg q1 q2
  rw [Dm]
  dsimp only
  rw [t1]
  dsimp only
  rw [t2]
  rw [B2,Bool.and_eq_true]at c3
  rw [if_neg]
  ·simp;omega
  ·simp only [Bool.or_eq_true,bne_iff_ne,ne_eq,decide_eq_true_eq,Bool.not_eq_true',not_or,Decidable.not_not,Bool.not_eq_false]
   exact⟨⟨⟨by omega,c1⟩,c3.1⟩,c3.2⟩
theorem uP : ∀ (l:List Sm) (nest b5:Int) (aX:Bool) (n:Nat) (out new:List It),eQ nest b5 aX out l=out++new→It.cY n new=true→out.length≤n→n+new.length≤200→
 Sm.eA nest n l=(true,n+new.length)∧(l = []∨nest≤12)
 | [],nest,b5,aX,n,out,new,qC,hm,ho,hn=>by
  simp only [eQ]at qC
  have:new = []:=by simpa using qC
  subst this
  exact⟨by simp [Sm.eA], .inl rfl⟩
 | s::l,nest,b5,aX,n,out,new,qC,hm,ho,hn=>by
  simp only [eQ]at qC
  rw [if_pos (by simp only [decide_eq_true_eq];omega)]at qC
  obtain⟨n1,g1⟩:=y2 nest b5 aX s out
  obtain⟨n2,g2⟩:=pG nest b5 aX l (iA nest b5 aX out s)
  have en:new=(⟨s,nest,b5,aX⟩::n1)++n2:=by
   rw [g2,g1,List.append_assoc,List.append_cancel_left_eq]at qC
   exact qC.symm
  subst en
  rw [jV,Bool.and_eq_true]at hm
  rw [List.length_append]at hn ⊢
  obtain⟨r1,r2⟩:=Pp s nest b5 aX n out _ g1 hm.1 ho (by omega)
  obtain⟨q1,q2⟩:=uP l nest b5 aX (n+(⟨s,nest,b5,aX⟩::n1:List It).length) _ n2 g2 hm.2 (by rw [g1,List.length_append];omega) (by omega)
  refine⟨?_, .inr r2⟩
  simp only [Sm.eA,r1,Bool.not_true,Bool.false_eq_true, ↓reduceIte,q1]
  congr 1;omega
end
theorem y3 : ∀ (l:List Pc) (out:List It),out.length≤200→(Pc.eA out.length l=true↔Pc.mL l=true∧∃ new,allM out l=out++new∧(out++new).length≤200∧It.cY out.length new=true)
 | [],out,ho=>by simp [Pc.eA,Pc.mL,allM,It.cY];exact ho
 | f::l,out,ho=>by
  have vE : ∀ (l:List Pc) (out:List It),∃ new,allM out l=out++new:=by
   intro l
   induction l with
   | nil=>intro out;exact⟨[],by simp [allM]⟩
   | cons f l ih=>
    intro out
    simp only [allM]
    split
    ·exact⟨_,rfl⟩
    ·obtain⟨n1,h1⟩:=ih (out++f.flat)
     exact⟨f.flat++n1,by rw [h1,List.append_assoc]⟩
  simp only [Pc.eA,Pc.mL]
  have adP:(decide ((f.params.length:Int) > 8) || decide ((f.vars.length:Int) > 16) || !(isName f.name) || !(bX f.vars) || !(bX f.fin))=(!(isName f.name) || decide ((f.params.length:Int) > 8) || decide ((f.vars.length:Int) > 16) || !(bX f.vars) || !(bX f.fin)):=by
   cases isName f.name <;> simp
  rw [adP]
  split
  ·simp
  split
  ·simp
  have hg:Sm.fA 1 out.length f.body=Sm.eA 1 out.length f.body:=by unfold Sm.fA gate;rw [if_neg (by simp)]
  rw [hg]
  constructor
  ·intro h
   split at h
   ·cases h
   rename_i hc
   obtain⟨n1,k1,k2,k3,k4⟩:=uO f.body 1 0 false out.length [] (.inr (by omega)) (by simp) ho (by simpa using hc)
   have qC:f.flat=n1:=by unfold Pc.flat;rw [k1];rfl
   rw [← k3, ← List.length_append]at h
   obtain⟨hh,n2,j1,j2,j3⟩:=(y3 l (out++n1) (by rw [List.length_append];omega)).1 h
   refine⟨hh,n1++n2, ?_,by simpa using j2, ?_⟩
   ·simp only [allM,qC]
    rw [if_neg (by simp only [List.length_append,decide_eq_true_eq];omega),j1,List.append_assoc]
   ·rw [jV,k2, ← List.length_append,j3];rfl
  ·rintro⟨hh,new,j1,j2,j3⟩
   simp only [allM]at j1
   split at j1
   ·rename_i hc
    have:new=f.flat:=(List.append_cancel_left j1).symm
    subst this
    simp only [decide_eq_true_eq]at hc
    omega
   rename_i hc
   simp only [decide_eq_true_eq]at hc
   obtain⟨n2,g2⟩:=vE l (out++f.flat)
   have en:new=f.flat++n2:=by
    rw [g2,List.append_assoc]at j1
    exact(List.append_cancel_left j1).symm
   subst en
   rw [jV,Bool.and_eq_true]at j3
   rw [List.length_append,List.length_append]at j2
   obtain⟨r1,_⟩:=uP f.body 1 0 false out.length [] f.flat (by unfold Pc.flat;rfl) j3.1 (by simp) (by omega)
   rw [r1]
   simp only [Bool.not_true,Bool.false_eq_true, ↓reduceIte]
   rw [← List.length_append]
   exact(y3 l (out++f.flat) (by rw [List.length_append];omega)).2 ⟨hh,n2,g2,by simp;omega,by rw [List.length_append];exact j3.2⟩
theorem Dr (p:Pg):p.Dp=p.may:=by
 have h:=y3 p.procs [] (by simp)
 unfold Pg.Dp Pg.may
 split
 ·rfl
 ·have e:Pc.eA 0 p.procs=(if !(Pc.mL p.procs)then false else if decide ((p.all.length:Int) > 200)then false else It.cY 0 p.all):=by
   rw [Bool.eq_iff_iff]
   have h':Pc.eA 0 p.procs=true↔_:=h
   rw [h']
   have ha:p.all=allM [] p.procs:=rfl
   constructor
   ·rintro⟨h1,new,h2,h3,h4⟩
    rw [ha,h2,h1]
    simp only [List.nil_append]at h3 ⊢
    simp only [Bool.not_true,Bool.false_eq_true, ↓reduceIte]
    rw [if_neg (by simp only [decide_eq_true_eq];omega)]
    exact h4
   ·intro h1
    cases hh:Pc.mL p.procs
    ·rw [hh]at h1;simp at h1
    ·rw [hh]at h1
     simp only [Bool.not_true,Bool.false_eq_true, ↓reduceIte]at h1
     split at h1
     ·cases h1
     ·rename_i hc
      simp only [decide_eq_true_eq]at hc
      exact⟨rfl,p.all,by rw [ha];rfl,by simp;omega,h1⟩
  exact e
end Go.Abs

/-! Tree1 -/

namespace Go.Abs
set_option maxRecDepth 8000
open Go.Proofs
theorem B4 {size bytes z:Nat} {g:Tag} {rows:List (List D)} {s:St} (h:rows.length*(bytes+1)≤bQ) (hr:rows≠ []) :
 kp size bytes (.slice .full z []) (.slice g size rows) s=some (.slice (.tok s.aC.length) size rows,⟨s.az,s.aC++ [some rows.length]⟩):=by
 cases rows with
 | nil=>exact absurd rfl hr
 | cons r l=>simp only [kp];simp at h ⊢;exact h
theorem uQ {l:List ay} (hl:l.length<1073741824) (g:Tag) (s:St):aD Tryz.prog gb [.slice g 1 (l.map encStr)] s (.slice .shared 1 (l.map encStr)) s:=by
 refine dT.yC (.cons (Wk.shared _ _ _) .nil) (aD.pure ?_ (by simp [D.bT,D.ok,Tag.ok,eI]) (by simp [D.ok,Tag.ok,eI]) s)
 unfold S0
 refine aD.go uf rfl fun B Q hB hQ=> ?_
 have⟨hC,hE,hF,hM⟩:=bL
 cases l with
 | nil=>
  repeat' (first
 | simp only [go_sem,hC,hE,hF,hM]
 | (with_reducible refine aH hQ ?_;simp only [aA,aB,Option.some.injEq,exists_eq_left',go_sem,hC,hE,hF,hM];repeat' (first | exact Ok.out | with_reducible refine aJ ?_ ?_ | (simp;done))))
  refine Gh (fun _=> ?_) ?_
  ·repeat' (first
 | simp only [go_sem,hC,hE,hF,hM,kp,true_or,Nat.zero_le]
 | (with_reducible refine aH hQ ?_;simp only [aA,aB,Option.some.injEq,exists_eq_left',go_sem,hC,hE,hF,hM];repeat' (first | exact Ok.out | with_reducible refine aJ ?_ ?_ | (simp;done))))
  ·repeat' (first
 | simp only [go_sem,hC,hE,hF,hM,kp,true_or,Nat.zero_le]
 | (with_reducible refine aH hQ ?_;simp only [aA,aB,Option.some.injEq,exists_eq_left',go_sem,hC,hE,hF,hM];repeat' (first | exact Ok.out | with_reducible refine aJ ?_ ?_ | (simp;done))))
 | cons x l=>
  have e:((x::l).map encStr).length*(16+1)≤bQ:=by simp only [List.length_map,bQ];omega
  have e2:=fun s=>B4 (size:=1) (z:=1) (g:= .shared) (s:=s) e (by simp)
  simp only [List.map_cons,encStr]at e2
  repeat' (first
 | simp only [go_sem,hC,hE,hF,hM,e2]
 | (with_reducible refine aH hQ ?_;simp only [aA,aB,Option.some.injEq,exists_eq_left',go_sem,hC,hE,hF,hM];repeat' (first | exact Ok.out | with_reducible refine aJ ?_ ?_ | (simp;done))))
theorem SZ {l:List Pm} (hl:l.length<1073741824) (g:Tag) (s:St):aD Tryz.prog kx [.slice g 2 (l.map ff)] s (.slice .shared 2 (l.map ff)) s:=by
 refine dT.yC (.cons (Wk.shared _ _ _) .nil) (aD.pure ?_ (by simp [D.bT,D.ok,Tag.ok,LL]) (by simp [D.ok,Tag.ok,LL]) s)
 unfold S0
 refine aD.go sf rfl fun B Q hB hQ=> ?_
 have⟨hC,hE,hF,hM⟩:=bL
 cases l with
 | nil=>
  repeat' (first
 | simp only [go_sem,hC,hE,hF,hM]
 | (with_reducible refine aH hQ ?_;simp only [aA,aB,Option.some.injEq,exists_eq_left',go_sem,hC,hE,hF,hM];repeat' (first | exact Ok.out | with_reducible refine aJ ?_ ?_ | (simp;done))))
  refine Gh (fun _=> ?_) ?_
  ·repeat' (first
 | simp only [go_sem,hC,hE,hF,hM,kp,true_or,Nat.zero_le]
 | (with_reducible refine aH hQ ?_;simp only [aA,aB,Option.some.injEq,exists_eq_left',go_sem,hC,hE,hF,hM];repeat' (first | exact Ok.out | with_reducible refine aJ ?_ ?_ | (simp;done))))
  ·repeat' (first
 | simp only [go_sem,hC,hE,hF,hM,kp,true_or,Nat.zero_le]
 | (with_reducible refine aH hQ ?_;simp only [aA,aB,Option.some.injEq,exists_eq_left',go_sem,hC,hE,hF,hM];repeat' (first | exact Ok.out | with_reducible refine aJ ?_ ?_ | (simp;done))))
 | cons x l=>
  have e:((x::l).map ff).length*(24+1)≤bQ:=by simp only [List.length_map,bQ];omega
  have e2:=fun s=>B4 (size:=2) (z:=2) (g:= .shared) (s:=s) e (by simp)
  simp only [List.map_cons,encStr]at e2
  repeat' (first
 | simp only [go_sem,hC,hE,hF,hM,e2]
 | (with_reducible refine aH hQ ?_;simp only [aA,aB,Option.some.injEq,exists_eq_left',go_sem,hC,hE,hF,hM];repeat' (first | exact Ok.out | with_reducible refine aJ ?_ ?_ | (simp;done))))
theorem aag : ∀ n,n<1073741824→∀ x:Ex,x.size≤n→aD Tryz.prog lz [.agg (bC x)] S0 (.agg (bC x)) S0:=by
 intro n
 induction n with
 | zero=>rintro _ ⟨op,m,name,kids⟩ h;simp only [Ex.size]at h;omega
 | succ n ZT=>
 rintro hn ⟨op,m,name,kids⟩ hx
 have hk : ∀ y∈kids,∀ s,aD Tryz.prog lz [.agg (bC y)] s (.agg (bC y)) s:=fun y hy s=>
  (ZT (by omega) y (by simp only [Ex.size]at hx;have:=Ex.cd hy;omega)).pure (by simp [D.bT,D.ok,gH]) (by simp [D.ok,gH]) s
 have hlen:kids.length<1073741824:=by simp only [Ex.size]at hx;have:=Ex.c9 kids;omega
 unfold S0
 refine aD.go ET rfl fun B Q hB hQ=> ?_
 have⟨hC,hE,hF,hM⟩:=bL
 repeat' (first
 | simp only [go_sem,hC,hE,hF,hM]
 | (with_reducible refine aH hQ ?_;simp only [aA,aB,Option.some.injEq,exists_eq_left',go_sem,hC,hE,hF,hM];repeat' (first | exact Ok.out | with_reducible refine aJ ?_ ?_ | (simp;done))))
 refine bw.tj 0 3 4 rfl rfl ?_
 simp only [go_sem,hC,hE,hF,hM]
 refine dc 2 1 (bw.ind (ι:=List Ex×Nat×List Ex) (fun i=>kids.drop i.2.1=i.1∧i.2.1=i.2.2.length∧i.2.2++i.1=kids) (fun i=>i.1.length)
  (fun i=> [(1, .ptr 0 0),(2, .ptr 1 0),(9, .slice .shared 4 (kids.map bC)),(10, .int .i64 (kids.length:Int)),(11, .int .i64 (i.2.1:Int))])
  (fun i=>⟨[[.int .i64 op, .int .i64 m, .str name, .slice (.tok 0) 4 (i.2.2.map bC)],bC iG],[some i.2.1]⟩) ?_ (kids,0,[]) ⟨rfl,rfl,rfl⟩)
 rintro⟨rest,k,acc⟩ ⟨h1,h2,h3⟩ IH
 dsimp only at h1 h2 h3
 subst h2
 cases rest with
 | nil=>
  have hC:=drop_nil h1
  rw [List.append_nil]at h3
  subst h3
  repeat' (first
 | simp only [go_sem,hC,hE,hF,hM]
 | (with_reducible refine aH hQ ?_;simp only [aA,aB,Option.some.injEq,exists_eq_left',go_sem,hC,hE,hF,hM];repeat' (first | exact Ok.out | with_reducible refine aJ ?_ ?_ | (simp;done))))
 | cons y rest=>
  obtain⟨hE,g2,hC,g4⟩:=drop_cons h1
  have hF:acc.length<4611686018427387904:=by omega
  have fC:(acc.length+1)*57≤bQ:=by simp only [bQ];omega
  have hy:=hk y (List.mem_of_getElem? hE)
  repeat' (first
 | simp only [go_sem,hC,hE,hF,hM,fC]
 | (with_reducible refine CU (hy _) ?_)
 | (with_reducible refine aH hQ ?_;simp only [aA,aB,Option.some.injEq,exists_eq_left',go_sem,hC,hE,hF,hM];repeat' (first | exact Ok.out | with_reducible refine aJ ?_ ?_ | (simp;done))))
  refine dc 2 1 (IH (rest,acc.length+1,acc++ [y]) ⟨g2,by simp,by simp only [List.append_assoc,List.cons_append,List.nil_append];exact h3⟩ (Nat.lt_succ_self _))
theorem Pq {x:Ex} (h:x.size<1073741824) (s:St):aD Tryz.prog lz [.agg (bC x)] s (.agg (bC x)) s:=
 (aag x.size h x (Nat.le_refl _)).pure (by simp [D.bT,D.ok,gH]) (by simp [D.ok,gH]) s
end Go.Abs

/-! Tree2 -/

namespace Go.Abs
set_option maxRecDepth 8000
open Go.Proofs
abbrev Vz (b:Bool) (N:Nat):Prop:=∀ l:List Sm,Sm.aR l<N→∀ n:Nat,n+Sm.aR l<1073741824→∀ s:St,
 aD Tryz.prog jE [.slice .shared 13 (l.map bh), .int .i64 (n:Int), .bool b] s (.tuple [.slice .shared 13 ((Sm.cR b n l).1.map bh), .int .i64 ((Sm.cR b n l).2:Int)]) s
theorem S1 {N:Nat} (ih:Vz true N) (l:List Sm) (hl:Sm.aR l<N+1) (n:Nat) (hn:n+Sm.aR l<1073741824) :
 aD Tryz.prog jE [.slice .shared 13 (l.map bh), .int .i64 (n:Int), .bool true] S0 (.tuple [.slice .shared 13 ((Sm.cR true n l).1.map bh), .int .i64 ((Sm.cR true n l).2:Int)]) S0:=by
 unfold S0
 refine aD.go BL rfl fun B Q hB hQ=> ?_
 have⟨hC,hE,hF,hM⟩:=bL
 repeat' (first
 | simp only [go_sem,hC,hE,hF,hM]
 | (with_reducible refine aH hQ ?_;simp only [aA,aB,Option.some.injEq,exists_eq_left',go_sem,hC,hE,hF,hM];repeat' (first | exact Ok.out | with_reducible refine aJ ?_ ?_ | (simp;done))))
 have hlen:l.length<1073741824:=by have:=Sm.c9 l;omega
 refine bw.pf 8 13 rfl ?_
 simp only [go_sem,hC,hE,hF,hM]
 refine dc 0 1 (bw.ind (ι:=List Sm×Nat×List Sm×Nat) (fun i=>l.drop i.2.1=i.1∧i.2.1=i.2.2.1.length∧Sm.cR true n l=(i.2.2.1++(Sm.cR true i.2.2.2 i.1).1,(Sm.cR true i.2.2.2 i.1).2)∧i.2.2.2+Sm.aR i.1≤n+Sm.aR l) (fun i=>i.1.length)
  (fun i=> [(1, .int .i64 (i.2.2.2:Int)),(2, .bool true),(8, .slice (.tok 0) 13 (i.2.2.1.map bh)),(14, .slice .shared 13 (l.map bh)),(15, .int .i64 (l.length:Int)),(16, .int .i64 (i.2.1:Int))])
  (fun i=>⟨[],[some i.2.1]⟩) ?_ (l,0,[],n) ⟨rfl,rfl,rfl,Nat.le_refl _⟩)
 rintro⟨rest,k,acc,m⟩ ⟨h1,h2,h3,h4⟩ IH
 dsimp only at h1 h2 h3 h4
 subst h2
 cases rest with
 | nil=>
  have hC:=drop_nil h1
  simp only [Sm.cR,List.append_nil]at h3
  rw [h3]at hQ
  repeat' (first
 | simp only [go_sem,hC,hE,hF,hM]
 | (with_reducible refine aH hQ ?_;simp only [aA,aB,Option.some.injEq,exists_eq_left',go_sem,hC,hE,hF,hM];repeat' (first | exact Ok.out | with_reducible refine aJ ?_ ?_ | (simp;done))))
 | cons y rest=>
  obtain⟨hE,g2,hC,g4⟩:=drop_cons h1
  simp only [Sm.aR]at h4 hl
  have hm:m<4611686018427387904:=by omega
  have hk:acc.length<4611686018427387904:=by omega
  have ep:y.size≤N:=by have:=Sm.cd (List.mem_of_getElem? hE);omega
  obtain⟨id,kind,labels,name,proc,x,has,args,a7,aX⟩:=y
  simp only [Sm.size]at ep h4
  have fC:(acc.length+1)*209≤bQ:=by simp only [bQ];omega
  have hx:=fun s=>Pq (x:=x) (by omega) s
  simp only [ib]at hx
  have xM:=fun g s=>uQ (l:=labels) (by omega) g s
  have zY:=Ar.c9 args
  repeat' (first
 | simp only [go_sem,hC,hE,hF,hM,aP hm]
 | (with_reducible refine CU (xM _ _) ?_)
 | (with_reducible refine CU (hx _) ?_)
 | (with_reducible refine aH hQ ?_;simp only [aA,aB,Option.some.injEq,exists_eq_left',go_sem,hC,hE,hF,hM];repeat' (first | exact Ok.out | with_reducible refine aJ ?_ ?_ | (simp;done))))
  refine bw.tj 1 10 6 rfl rfl ?_
  simp only [go_sem,hC,hE,hF,hM]
  refine dc 2 2 (bw.ind (ι:=List Ar×Nat×List Ar) (fun i=>args.drop i.2.1=i.1∧i.2.1=i.2.2.length∧i.2.2++i.1=args) (fun i=>i.1.length)
   (fun i=> [(1, .int .i64 ((m+1:Nat):Int)),(2, .bool true),(8, .slice (.tok 0) 13 (acc.map bh)),(10, .ptr 0 0),(11, .ptr 1 0),(14, .slice .shared 13 (l.map bh)),(15, .int .i64 (l.length:Int)),(16, .int .i64 (acc.length:Int)),
    (36, .slice .shared 6 (args.map ek)),(37, .int .i64 (args.length:Int)),(38, .int .i64 (i.2.1:Int))])
   (fun i=>⟨[bh ⟨id,kind,labels,name,proc,x,has,args,a7,aX⟩,[.int .i64 ((m+1:Nat):Int), .int .i64 kind, .slice .shared 1 (labels.map encStr), .str name, .str proc, .int .i64 x.op, .int .i64 x.n, .str x.name, .slice .shared 4 (x.kids.map bC), .bool has, .slice (.tok 1) 6 (i.2.2.map ek), .slice .shared 13 (a7.map bh), .slice .shared 13 (aX.map bh)]],[some acc.length,some i.2.1]⟩) ?_ (args,0,[]) ⟨rfl,rfl,rfl⟩)
  rintro⟨Mt,ka,Ds⟩ ⟨j1,j2,j3⟩ IHa
  dsimp only at j1 j2 j3
  subst j2
  cases Mt with
  | nil=>
   have hC:=drop_nil j1
   rw [List.append_nil]at j3
   subst j3
   have b1:=Sm.s3 true (m+1) a7
   have b2:=Sm.s3 true (Sm.cR true (m+1) a7).2 aX
   have c1:=ih a7 (by omega) (m+1) (by omega)
   have c2:=ih aX (by omega) (Sm.cR true (m+1) a7).2 (by omega)
   repeat' (first
 | simp only [go_sem,hC,hE,hF,hM,fC]
 | (with_reducible refine CU (c1 _) ?_)
 | (with_reducible refine CU (c2 _) ?_)
 | (with_reducible refine aH hQ ?_;simp only [aA,aB,Option.some.injEq,exists_eq_left',go_sem,hC,hE,hF,hM];repeat' (first | exact Ok.out | with_reducible refine aJ ?_ ?_ | (simp;done))))
   refine dV 0 1 ?_ ?_ (IH (rest,acc.length+1,acc++ [(Sm.num true m ⟨id,kind,labels,name,proc,x,has,Ds,a7,aX⟩).1],(Sm.num true m ⟨id,kind,labels,name,proc,x,has,Ds,a7,aX⟩).2) ⟨g2,by simp,by rw [h3];simp [Sm.cR],by simp only [Sm.num];omega⟩ (Nat.lt_succ_self _))
   ·(simp only [go_sem,hC,hE,hF,hM,aP hk,Sm.num];try exact bR)
   ·(simp only [go_sem,hC,hE,hF,hM,aP hk,Sm.num];try exact bR)
  | cons a Mt=>
   obtain⟨hE,g2,hC,g4⟩:=drop_cons j1
   have ha:a.x.size<1073741824:=by have:=Ar.cd (List.mem_of_getElem? hE);omega
   have DJ:Ds.length<4611686018427387904:=by omega
   have aah:(Ds.length+1)*81≤bQ:=by simp only [bQ];omega
   have hxa:=fun s=>Pq ha s
   simp only [ib]at hxa
   obtain⟨alW,adQ,ax⟩:=a
   repeat' (first
 | simp only [go_sem,hC,hE,hF,hM,aah]
 | (with_reducible refine CU (hxa _) ?_)
 | (with_reducible refine aH hQ ?_;simp only [aA,aB,Option.some.injEq,exists_eq_left',go_sem,hC,hE,hF,hM];repeat' (first | exact Ok.out | with_reducible refine aJ ?_ ?_ | (simp;done))))
   refine dV 2 2 ?_ ?_ (IHa (Mt,Ds.length+1,Ds++ [⟨alW,adQ,ax⟩]) ⟨g2,by simp,by simp only [List.append_assoc,List.cons_append,List.nil_append];exact j3⟩ (Nat.lt_succ_self _))
   ·(simp only [go_sem,hC,hE,hF,hM,aP DJ];try exact bR)
   ·(simp only [go_sem,hC,hE,hF,hM,aP DJ];try exact bR)
theorem W1 : ∀ N,Vz true N:=by
 intro N
 induction N with
 | zero=>intro l hl;exact absurd hl (Nat.not_lt_zero _)
 | succ N ih=>
  intro l hl n hn s
  exact(S1 ih l hl n hn).pure (by simp [D.bT,D.ok,Tag.ok,nB]) (by simp [D.bT,D.ok,Tag.ok,nB]) s
theorem adR {l:List Sm} {n:Nat} (h:n+Sm.aR l<1073741824) (s:St) :
 aD Tryz.prog jE [.slice .shared 13 (l.map bh), .int .i64 (n:Int), .bool true] s (.tuple [.slice .shared 13 ((Sm.cR true n l).1.map bh), .int .i64 ((Sm.cR true n l).2:Int)]) s:=
 W1 _ l (Nat.lt_succ_self _) n h s
theorem S2 {p:Pg} (hp:p.size<1073741824):aD Tryz.prog o8 [.agg (cB p)] S0 (.agg (cB p.number)) S0:=by
 obtain⟨globals,procs⟩:=p
 simp only [Pg.size]at hp
 have hlen:procs.length<1073741824:=by have:=Pc.c9 procs;omega
 have hcg:=fun g s=>uQ (l:=globals) (by omega) g s
 unfold S0
 refine aD.go BI rfl fun B Q hB hQ=> ?_
 have⟨hC,hE,hF,hM⟩:=bL
 repeat' (first
 | simp only [go_sem,hC,hE,hF,hM]
 | (with_reducible refine CU (hcg _ _) ?_)
 | (with_reducible first | refine bD fun hc=> ?_ | refine bE fun hc=> ?_ | refine bF (fun hc=> ?_) fun hc=> ?_) <;> (try simp only [hc,bs, ↓reduceIte]at h) <;> try simp only [hc]
 | (with_reducible refine aH hQ ?_;simp only [aA,aB,bM,bN,go_sem,hC,hE,hF,hM];repeat' (first | exact Ok.out | with_reducible refine aJ ?_ ?_ | (simp;done))))
 refine bw.tj 2 1 5 rfl rfl ?_
 simp only [go_sem,hC,hE,hF,hM]
 refine dc 3 1 (bw.ind (ι:=List Pc×Nat×List Pc×Nat) (fun i=>procs.drop i.2.1=i.1∧i.2.1=i.2.2.1.length∧Pc.cR 0 procs=i.2.2.1++Pc.cR i.2.2.2 i.1∧i.2.2.2+Pc.aR i.1≤Pc.aR procs) (fun i=>i.1.length)
  (fun i=> [(2, .ptr 1 0),(3, .int .i64 (i.2.2.2:Int)),(4, .ptr 2 0),(13, .slice .shared 5 (procs.map cL)),(14, .int .i64 (procs.length:Int)),(15, .int .i64 (i.2.1:Int))])
  (fun i=>⟨[cB ⟨globals,procs⟩,cB rI,[.slice .shared 1 (globals.map encStr), .slice (.tok 0) 5 (i.2.2.1.map cL)]],[some i.2.1]⟩) ?_ (procs,0,[],0) ⟨rfl,rfl,rfl,by dsimp only;omega⟩)
 rintro⟨rest,k,acc,m⟩ ⟨h1,h2,h3,h4⟩ IH
 dsimp only at h1 h2 h3 h4
 subst h2
 cases rest with
 | nil=>
  have hC:=drop_nil h1
  simp only [Pc.cR,List.append_nil]at h3
  subst h3
  repeat' (first
 | simp only [go_sem,hC,hE,hF,hM,Pg.number]
 | (with_reducible first | refine bD fun hc=> ?_ | refine bE fun hc=> ?_ | refine bF (fun hc=> ?_) fun hc=> ?_) <;> (try simp only [hc,bs, ↓reduceIte]at h) <;> try simp only [hc]
 | (with_reducible refine aH hQ ?_;simp only [aA,aB,bM,bN,go_sem,hC,hE,hF,hM,Pg.number];repeat' (first | exact Ok.out | with_reducible refine aJ ?_ ?_ | (simp;done))))
 | cons y rest=>
  obtain⟨hE,g2,hC,g4⟩:=drop_cons h1
  simp only [Pc.aR]at h4
  have ep:=Pc.cd (List.mem_of_getElem? hE)
  obtain⟨name,params,vars,body,fin⟩:=y
  simp only [Pc.size]at ep h4
  have hk:acc.length<4611686018427387904:=by omega
  have fC:(acc.length+1)*113≤bQ:=by simp only [bQ];omega
  have c1:=fun g s=>SZ (l:=params) (by omega) g s
  have c2:=fun g s=>uQ (l:=vars) (by omega) g s
  have c3:=fun g s=>uQ (l:=fin) (by omega) g s
  have c4:=fun s=>adR (l:=body) (n:=m) (by omega) s
  have b1:=Sm.s3 true m body
  repeat' (first
 | simp only [go_sem,hC,hE,hF,hM,fC]
 | (with_reducible refine CU (c1 _ _) ?_)
 | (with_reducible refine CU (c2 _ _) ?_)
 | (with_reducible refine CU (c3 _ _) ?_)
 | (with_reducible refine CU (c4 _) ?_)
 | (with_reducible refine aH hQ ?_;simp only [aA,aB,bM,bN,go_sem,hC,hE,hF,hM];repeat' (first | exact Ok.out | with_reducible refine aJ ?_ ?_ | (simp;done))))
  refine dV 3 1 ?_ ?_ (IH (rest,acc.length+1,acc++ [⟨name,params,vars,(Sm.cR true m body).1,fin⟩],(Sm.cR true m body).2) ⟨g2,by simp,by rw [h3];simp [Pc.cR],by dsimp only;omega⟩ (Nat.lt_succ_self _))
  ·(simp only [go_sem,hC,hE,hF,hM,aP hk];try exact bR)
  ·(simp only [go_sem,hC,hE,hF,hM,aP hk];try exact bR)
theorem S3 {p q:Pg} (h:p.vV=some q) (s:St):aD Tryz.prog o8 [.agg (cB p)] s (.agg (cB q)) s:=by
 unfold Pg.vV at h
 split at h
 ·cases h;exact(S2 ‹_›).pure (by simp [D.bT,D.ok,jC]) (by simp [D.ok,jC]) s
 ·cases h
end Go.Abs

/-! Sc1 -/

namespace Go.Abs
set_option maxRecDepth 8000
open Go.Proofs
def alX (x:ay):List ay→Bool
 | []=>false
 | s::l=>if x==s then true else alX x l
def Ae (pre:List ay):List ay→Bool
 | []=>false
 | s::l=>if eH pre s then true else Ae (pre++ [s]) l
def fY (l:List ay):Bool:=Ae [] l
theorem Pr {l:List ay} {k:Nat} {a:ay} (h:l[k]? = some a):l.take (k+1)=l.take k++ [a]:=by rw [List.take_add_one,h];rfl
theorem AT {l:List ay} (hl:l.length<4611686018427387904) (g:Tag) (s:St):aD Tryz.prog mT [.slice g 1 (l.map encStr)] s (.bool (fY l)) s:=by
 refine aD.O4 (d':= .slice .shared 1 (l.map encStr)) ?_ (Wk.shared _ _ _)
 refine aD.pure ?_ (by simp [D.bT,D.ok,Tag.ok,eI]) rfl s
 generalize h:fY l=p
 simp only [fY]at h
 unfold S0
 refine aD.go BG rfl fun B Q hB hQ=> ?_
 have⟨hC,hE,hF,hM⟩:=bL
 repeat' (first
 | simp only [go_sem,hC,hE,hF,hM]
 | (with_reducible first | refine bD fun hc=> ?_ | refine bE fun hc=> ?_ | refine bF (fun hc=> ?_) fun hc=> ?_) <;> (try simp only [hc,bs, ↓reduceIte]at h) <;> try simp only [hc]
 | (with_reducible refine aH hQ ?_;(try cases h);simp only [aA,aB,bM,bN,go_sem,hC,hE,hF,hM];repeat' (first | exact Ok.out | with_reducible refine aJ ?_ ?_ | (simp;done))))
 refine dc 0 0 (bw.ind (ι:=List ay×Nat) (fun i=>l.drop i.2=i.1∧Ae (l.take i.2) i.1=p) (fun i=>i.1.length)
  (fun i=> [(0, .slice .shared 1 (l.map encStr)),(5, .slice .shared 1 (l.map encStr)),(6, .int .i64 (l.length:Int)),(7, .int .i64 (i.2:Int))]) (fun i=>⟨[],[]⟩) ?_ (l,0) ⟨rfl,h⟩)
 rintro⟨rest,k⟩ ⟨h1,h⟩ IH
 dsimp only at h1 h
 cases rest with
 | nil=>
  have hC:=drop_nil h1
  simp only [Ae]at h
  repeat' (first
 | simp only [go_sem,hC,hE,hF,hM]
 | (with_reducible first | refine bD fun hc=> ?_ | refine bE fun hc=> ?_ | refine bF (fun hc=> ?_) fun hc=> ?_) <;> (try simp only [hc,bs, ↓reduceIte]at h) <;> try simp only [hc]
 | (with_reducible refine aH hQ ?_;(try cases h);simp only [aA,aB,bM,bN,go_sem,hC,hE,hF,hM];repeat' (first | exact Ok.out | with_reducible refine aJ ?_ ?_ | (simp;done))))
 | cons a rest=>
  obtain⟨hE,g2,hC,g4⟩:=drop_cons h1
  have bS:k<4611686018427387904:=by omega
  simp only [Ae]at h
  have hc:=iB (l:=l.take k) (by rw [List.length_take];omega) a
  have e1:List.drop 0 (List.take k (l.map encStr))=(l.take k).map encStr:=by simp [List.map_take]
  have c1:((0:Int)≤(k:Int))=True:=by simp
  have c2:((k:Int)≤(l.length:Int))=True:=by simp only [eq_iff_iff,iff_true];omega
  have e2:List.take k (l.map encStr)=(l.take k).map encStr:=by simp [List.map_take]
  repeat' (first
 | simp only [go_sem,hC,hE,hF,hM,e1,e2,c1,c2,or_true,true_and,and_self,ite_self,Int.toNat_natCast,List.drop_zero]
 | (with_reducible refine CU (hc _ _) ?_)
 | (with_reducible first | refine bD fun hc=> ?_ | refine bE fun hc=> ?_ | refine bF (fun hc=> ?_) fun hc=> ?_) <;> (try simp only [hc,bs, ↓reduceIte]at h) <;> try simp only [hc]
 | (with_reducible refine aH hQ ?_;(try cases h);simp only [aA,aB,bM,bN,go_sem,hC,hE,hF,hM,e1,e2,c1,c2,or_true,true_and,and_self,ite_self,Int.toNat_natCast,List.drop_zero];repeat' (first | exact Ok.out | with_reducible refine aJ ?_ ?_ | (simp;done))))
  refine dV 0 0 ?_ ?_ (IH (rest,k+1) ⟨g2,by dsimp only;rw [Pr (by assumption)];exact h⟩ (Nat.lt_succ_self _))
  ·(simp only [go_sem,hC,hE,hF,hM,aP bS];try exact bR)
  ·(simp only [go_sem,hC,hE,hF,hM,aP bS];try exact bR)
end Go.Abs

/-! Sc2 -/

namespace Go.Abs
set_option maxRecDepth 8000
open Go.Proofs
def B5 (vars globals:List ay) (name:ay):List Pm→Int
 | []=>if eH vars name then 4 else if eH globals name then 1 else 0
 | a::l=>if a.name==name then(if a.ref then 3 else 2)else B5 vars globals name l
def Pc.lU (p:Pg) (f:Pc) (name:ay):Int:=B5 f.vars p.globals name f.params
theorem G1 {p:Pg} {f:Pc} (hp:f.params.length<1000000000) (hv:f.vars.length<1000000000) (hg:p.globals.length<1000000000) (name:ay) (s:St):aD Tryz.prog tu [.agg (cB p), .agg (cL f), .str name] s (.int .i64 (f.lU p name)) s:=by
 refine aD.pure ?_ (by simp [D.bT,D.ok,jC,yI]) rfl s
 have qD:=iB (l:=f.vars) (by omega) name
 have vS:=iB (l:=p.globals) (by omega) name
 generalize h:f.lU p name=q
 simp only [Pc.lU]at h
 unfold S0
 refine aD.go Dg rfl fun B Q hB hQ=> ?_
 have⟨hC,hE,hF,hM⟩:=bL
 repeat' (first
 | simp only [go_sem,hC,hE,hF,hM]
 | (with_reducible refine aH hQ ?_;simp only [aA,aB,Option.some.injEq,exists_eq_left',go_sem,hC,hE,hF,hM];repeat' (first | exact Ok.out | with_reducible refine aJ ?_ ?_ | (simp;done))))
 refine dc 2 0 (bw.ind (ι:=List Pm×Nat) (fun i=>f.params.drop i.2=i.1∧B5 f.vars p.globals name i.1=q) (fun i=>i.1.length)
  (fun i=> [(2, .str name),(3, .ptr 0 0),(4, .ptr 1 0),(10, .slice .shared 2 (f.params.map ff)),(11, .int .i64 (f.params.length:Int)),(12, .int .i64 (i.2:Int))]) (fun i=>⟨[cB p,cL f],[]⟩) ?_ (f.params,0) ⟨rfl,h⟩)
 rintro⟨rest,k⟩ ⟨h1,h⟩ IH
 dsimp only at h1 h
 cases rest with
 | nil=>
  have hC:=drop_nil h1
  simp only [B5]at h
  rcases Bool.eq_false_or_eq_true (eH f.vars name)with b1 | b1
  ·simp only [b1,if_true]at h
   subst h
   repeat' (first
 | simp only [go_sem,hC,hE,hF,hM,b1]
 | (with_reducible refine CU (qD _ _) ?_)
 | (with_reducible refine CU (vS _ _) ?_)
 | (with_reducible refine aH hQ ?_;simp only [aA,aB,Option.some.injEq,exists_eq_left',go_sem,hC,hE,hF,hM];repeat' (first | exact Ok.out | with_reducible refine aJ ?_ ?_ | (simp;done))))
  ·simp only [b1,Bool.false_eq_true,if_false]at h
   rcases Bool.eq_false_or_eq_true (eH p.globals name)with b2 | b2
   ·simp only [b2,if_true]at h
    subst h
    repeat' (first
 | simp only [go_sem,hC,hE,hF,hM,b1,b2]
 | (with_reducible refine CU (qD _ _) ?_)
 | (with_reducible refine CU (vS _ _) ?_)
 | (with_reducible refine aH hQ ?_;simp only [aA,aB,Option.some.injEq,exists_eq_left',go_sem,hC,hE,hF,hM];repeat' (first | exact Ok.out | with_reducible refine aJ ?_ ?_ | (simp;done))))
   ·simp only [b2,Bool.false_eq_true,if_false]at h
    subst h
    repeat' (first
 | simp only [go_sem,hC,hE,hF,hM,b1,b2]
 | (with_reducible refine CU (qD _ _) ?_)
 | (with_reducible refine CU (vS _ _) ?_)
 | (with_reducible refine aH hQ ?_;simp only [aA,aB,Option.some.injEq,exists_eq_left',go_sem,hC,hE,hF,hM];repeat' (first | exact Ok.out | with_reducible refine aJ ?_ ?_ | (simp;done))))
 | cons a rest=>
  obtain⟨hE,g2,hC,g4⟩:=drop_cons h1
  have bS:k<4611686018427387904:=by omega
  simp only [B5]at h
  rcases Bool.eq_false_or_eq_true (a.name==name)with b1 | b1
  ·simp only [b1,if_true]at h
   rcases Bool.eq_false_or_eq_true a.ref with b2 | b2
   ·simp only [b2,if_true]at h
    subst h
    repeat' (first
 | simp only [go_sem,hC,hE,hF,hM,b1,b2]
 | (with_reducible refine aH hQ ?_;simp only [aA,aB,Option.some.injEq,exists_eq_left',go_sem,hC,hE,hF,hM];repeat' (first | exact Ok.out | with_reducible refine aJ ?_ ?_ | (simp;done))))
   ·simp only [b2,Bool.false_eq_true,if_false]at h
    subst h
    repeat' (first
 | simp only [go_sem,hC,hE,hF,hM,b1,b2]
 | (with_reducible refine aH hQ ?_;simp only [aA,aB,Option.some.injEq,exists_eq_left',go_sem,hC,hE,hF,hM];repeat' (first | exact Ok.out | with_reducible refine aJ ?_ ?_ | (simp;done))))
  ·simp only [b1,Bool.false_eq_true,if_false]at h
   repeat' (first
 | simp only [go_sem,hC,hE,hF,hM,b1]
 | (with_reducible refine aH hQ ?_;simp only [aA,aB,Option.some.injEq,exists_eq_left',go_sem,hC,hE,hF,hM];repeat' (first | exact Ok.out | with_reducible refine aJ ?_ ?_ | (simp;done))))
   refine dV 2 0 ?_ ?_ (IH (rest,k+1) ⟨g2,h⟩ (Nat.lt_succ_self _))
   ·(simp only [go_sem,hC,hE,hF,hM,aP bS];try exact bR)
   ·(simp only [go_sem,hC,hE,hF,hM,aP bS];try exact bR)
def jW (name:ay):List Pc→Option Pc
 | []=>none
 | f::l=>if f.name==name then some f else jW name l
def Pg.find (p:Pg) (name:ay):Option Pc:=jW name p.procs
def pc0:Pc:=⟨[],[],[],[],[]⟩
def amu (r:Option Pc):D:= .tuple [.agg (cL (r.getD pc0)), .bool r.isSome]
end Go.Abs

/-! Sc3 -/

namespace Go.Abs
set_option maxRecDepth 8000
open Go.Proofs
def Pc.B6 (f:Pc):List ay:=f.params.map (·.name)
def Pc.own (f:Pc):List ay:=f.B6++f.vars
theorem adS {f:Pc} (hp:f.params.length<1000000) (hv:f.vars.length<1000000) (s:St):aD Tryz.prog vr [.agg (cL f)] s (.slice .shared 1 (f.own.map encStr)) s:=by
 refine aD.pure ?_ (by simp [D.bT,D.ok,yI]) (by simp only [D.ok,Tag.ok,eI];rfl) s
 generalize hR:f.own=R
 simp only [Pc.own]at hR
 unfold S0
 refine aD.go EP rfl fun B Q hB hQ=> ?_
 have⟨hC,hE,hF,hM⟩:=bL
 repeat' (first
 | simp only [go_sem,hC,hE,hF,hM]
 | (with_reducible refine aH hQ ?_;simp only [aA,aB,Option.some.injEq,exists_eq_left',go_sem,hC,hE,hF,hM];repeat' (first | exact Ok.out | with_reducible refine aJ ?_ ?_ | (simp;done))))
 refine bw.pf 3 1 rfl ?_
 simp only [go_sem,hC,hE,hF,hM]
 refine dc 1 1 (bw.ind (ι:=List Pm×Nat×List ay×Nat) (fun i=>f.params.drop i.2.1=i.1∧i.2.2.1++i.1.map (·.name)=f.B6∧i.2.2.2=i.2.2.1.length) (fun i=>i.1.length)
  (fun i=> [(1, .ptr 0 0),(3, .slice (.tok 0) 1 (i.2.2.1.map encStr)),(7, .slice .shared 2 (f.params.map ff)),(8, .int .i64 (f.params.length:Int)),(9, .int .i64 (i.2.1:Int))]) (fun i=>⟨[cL f],[some i.2.2.2]⟩) ?_ (f.params,0,[],0) ⟨rfl,rfl,rfl⟩)
 rintro⟨rest,k,out,n⟩ ⟨h1,h2,h3⟩ IH
 dsimp only at h1 h2 h3
 subst h3
 have hlo:out.length+rest.length<1000000:=by
  have:=congrArg List.length h2
  simp only [List.length_append,List.length_map,Pc.B6]at this
  omega
 cases rest with
 | nil=>
  have hC:=drop_nil h1
  simp only [List.map_nil,List.append_nil]at h2
  subst hR
  rw [← h2]at hQ
  have fQ:=jJ (l:=out) (nx:=f.vars) rfl (by omega) (g:= .shared)
  repeat' (first
 | simp only [go_sem,hC,hE,hF,hM,fQ]
 | (with_reducible refine aH hQ ?_;simp only [aA,aB,Option.some.injEq,exists_eq_left',go_sem,hC,hE,hF,hM];repeat' (first | exact Ok.out | with_reducible refine aJ ?_ ?_ | (simp;done))))
 | cons a rest=>
  obtain⟨hE,g2,hC,g4⟩:=drop_cons h1
  have bS:k<4611686018427387904:=by omega
  have hF:(out.length+1)*17≤bQ:=by unfold bQ;omega
  repeat' (first
 | simp only [go_sem,hC,hE,hF,hM]
 | (with_reducible refine aH hQ ?_;simp only [aA,aB,Option.some.injEq,exists_eq_left',go_sem,hC,hE,hF,hM];repeat' (first | exact Ok.out | with_reducible refine aJ ?_ ?_ | (simp;done))))
  refine dV 1 1 ?_ ?_ (IH (rest,k+1,out++ [a.name],out.length+1) ⟨g2,by rw [← h2];simp,by simp⟩ (Nat.lt_succ_self _))
  ·(simp only [go_sem,hC,hE,hF,hM,aP bS,List.map_append,List.map_cons,List.map_nil,encStr];try exact bR)
  ·(simp only [go_sem,hC,hE,hF,hM,aP bS,List.map_append,List.map_cons,List.map_nil,encStr];try exact bR)
def qn:ay:= [109,97,105,110]
def Sm.known (p:Pg) (f:Pc) (procs:List ay) (v:Sm):Bool:=
 !(v.said.any fun n=>f.lU p n==0) && (v.kind != 4 || (v.proc != qn && eH procs v.proc))
structure Pc.Small (p:Pg) (f:Pc):Prop where
 par:f.params.length<1000000
 vars:f.vars.length<1000000
 GU:p.globals.length<1000000
def zz (p:Pg) (f:Pc):List ay→Bool
 | []=>true
 | n::l=>if f.lU p n==0 then false else zz p f l
theorem D7 (p:Pg) (f:Pc) : ∀ l,zz p f l = !(l.any fun n=>f.lU p n==0)
 | []=>rfl
 | n::l=>by
  simp only [zz,List.any_cons,D7 p f l]
  cases (f.lU p n==0) <;> simp
theorem G2 (v:Sm) (h:v.oR):v.said.length<3000000:=by
 have : ∀ (l:List Ar) (out:List ay),(Ar.said out l).length≤out.length+2*Ar.aR l:=by
  intro l
  induction l with
  | nil=>intro out;simp [Ar.said]
  | cons a l ih=>
   intro out
   simp only [Ar.said,Ar.aR]
   refine Nat.le_trans (ih _) ?_
   have:=kb a.x
   have:1≤a.x.size:=by obtain⟨_,_,_,_⟩:=a.x;simp [Ex.size]
   simp only [List.length_append]
   split <;> simp <;> omega
 have h1:=this v.args (v.sR++v.x.names)
 have h2:=kb v.x
 have h3:=h.2.2
 have h4:v.sR.length≤1:=by unfold Sm.sR;split <;> simp
 simp only [List.length_append]at h1
 unfold Sm.said
 omega
theorem W2 {p:Pg} {f:Pc} {procs:List ay} {v:Sm} (hs:f.Small p) (Af:procs.length<1000000) (hv:v.oR) (s:St):aD Tryz.prog o7 [.agg (cB p), .agg (cL f), .slice .shared 1 (procs.map encStr), .agg (bh v)] s (.bool (v.known p f procs)) s:=by
 refine aD.pure ?_ (by simp [D.bT,D.ok,jC,yI,mC,Tag.ok,eI]) rfl s
 have hn:=fun s=>y1 hv s
 have hk:=fun n s=>G1 (p:=p) (f:=f) (by have:=hs.par;omega) (by have:=hs.vars;omega) (by have:=hs.GU;omega) n s
 have aai:=iB (l:=procs) (by omega) v.proc
 have hl:=G2 v hv
 generalize h:v.known p f procs=q
 simp only [Sm.known, ← D7]at h
 unfold S0
 refine aD.go BH rfl fun B Q hB hQ=> ?_
 have⟨hC,hE,hF,hM⟩:=bL
 repeat' (first
 | simp only [go_sem,hC,hE,hF,hM]
 | (with_reducible refine CU (hn _) ?_)
 | (with_reducible refine aH hQ ?_;simp only [aA,aB,Option.some.injEq,exists_eq_left',go_sem,hC,hE,hF,hM];repeat' (first | exact Ok.out | with_reducible refine aJ ?_ ?_ | (simp;done))))
 refine dc 3 0 (bw.ind (ι:=List ay×Nat) (fun i=>v.said.drop i.2=i.1∧(zz p f i.1 && (v.kind != 4 || (v.proc != qn && eH procs v.proc)))=q) (fun i=>i.1.length)
  (fun i=> [(2, .slice .shared 1 (procs.map encStr)),(4, .ptr 0 0),(5, .ptr 1 0),(7, .ptr 2 0),(12, .slice .shared 1 (v.said.map encStr)),(13, .int .i64 (v.said.length:Int)),(14, .int .i64 (i.2:Int))]) (fun i=>⟨[cB p,cL f,bh v],[]⟩) ?_ (v.said,0) ⟨rfl,h⟩)
 rintro⟨rest,k⟩ ⟨h1,h⟩ IH
 dsimp only at h1 h
 cases rest with
 | nil=>
  have hC:=drop_nil h1
  simp only [zz,Bool.true_and]at h
  rcases Bool.eq_false_or_eq_true (v.kind != 4)with b1 | b1
  ·simp only [b1,Bool.true_or]at h
   subst h
   repeat' (first
 | simp only [go_sem,hC,hE,hF,hM,b1]
 | (with_reducible refine aH hQ ?_;simp only [aA,aB,Option.some.injEq,exists_eq_left',go_sem,hC,hE,hF,hM];repeat' (first | exact Ok.out | with_reducible refine aJ ?_ ?_ | (simp;done))))
  ·simp only [b1,Bool.false_or]at h
   rcases Bool.eq_false_or_eq_true (v.proc != qn)with b2 | b2
   ·simp only [b2,Bool.true_and]at h
    unfold qn at b2
    have b3:(v.proc == [109,97,105,110]) = !(v.proc != [109,97,105,110]):=by simp only [bne,Bool.not_not]
    rw [b2]at b3
    simp only [Bool.not_true,Bool.not_false]at b3
    subst h
    repeat' (first
 | simp only [go_sem,hC,hE,hF,hM,b1,b2,b3]
 | (with_reducible refine CU (aai _ _) ?_)
 | (with_reducible refine aH hQ ?_;simp only [aA,aB,Option.some.injEq,exists_eq_left',go_sem,hC,hE,hF,hM];repeat' (first | exact Ok.out | with_reducible refine aJ ?_ ?_ | (simp;done))))
   ·simp only [b2,Bool.false_and]at h
    unfold qn at b2
    have b3:(v.proc == [109,97,105,110]) = !(v.proc != [109,97,105,110]):=by simp only [bne,Bool.not_not]
    rw [b2]at b3
    simp only [Bool.not_true,Bool.not_false]at b3
    subst h
    repeat' (first
 | simp only [go_sem,hC,hE,hF,hM,b1,b2,b3]
 | (with_reducible refine CU (aai _ _) ?_)
 | (with_reducible refine aH hQ ?_;simp only [aA,aB,Option.some.injEq,exists_eq_left',go_sem,hC,hE,hF,hM];repeat' (first | exact Ok.out | with_reducible refine aJ ?_ ?_ | (simp;done))))
 | cons a rest=>
  obtain⟨hE,g2,hC,g4⟩:=drop_cons h1
  have bS:k<4611686018427387904:=by omega
  simp only [zz]at h
  rcases Bool.eq_false_or_eq_true (f.lU p a==0)with b1 | b1
  ·simp only [b1,if_true,Bool.false_and]at h
   subst h
   repeat' (first
 | simp only [go_sem,hC,hE,hF,hM,b1]
 | (with_reducible refine CU (hk _ _) ?_)
 | (with_reducible refine aH hQ ?_;simp only [aA,aB,Option.some.injEq,exists_eq_left',go_sem,hC,hE,hF,hM];repeat' (first | exact Ok.out | with_reducible refine aJ ?_ ?_ | (simp;done))))
  ·simp only [b1,Bool.false_eq_true,if_false]at h
   repeat' (first
 | simp only [go_sem,hC,hE,hF,hM,b1]
 | (with_reducible refine CU (hk _ _) ?_)
 | (with_reducible refine aH hQ ?_;simp only [aA,aB,Option.some.injEq,exists_eq_left',go_sem,hC,hE,hF,hM];repeat' (first | exact Ok.out | with_reducible refine aJ ?_ ?_ | (simp;done))))
   refine dV 3 0 ?_ ?_ (IH (rest,k+1) ⟨g2,h⟩ (Nat.lt_succ_self _))
   ·(simp only [go_sem,hC,hE,hF,hM,aP bS];try exact bR)
   ·(simp only [go_sem,hC,hE,hF,hM,aP bS];try exact bR)
end Go.Abs

/-! ScP -/

namespace Go.Abs
theorem Jg : ∀ (l pre:List ay),Ae pre l=true↔(∃ x∈l,x∈pre)∨¬ l.Nodup
 | [],pre=>by simp [Ae]
 | s::l,pre=>by
  simp only [Ae]
  by_cases h:eH pre s=true
  ·simp only [h,if_true,true_iff]
   exact .inl ⟨s,List.mem_cons_self,(iX _ _).1 h⟩
  ·have h':s∉pre:=fun m=>h ((iX _ _).2 m)
   simp only [h,if_false,Bool.false_eq_true]
   rw [Jg l (pre++ [s])]
   simp only [List.mem_append,List.mem_singleton,List.mem_cons,List.nodup_cons,exists_eq_or_imp]
   constructor
   ·rintro(⟨x,m,h1 | h1⟩ | h1)
    ·exact .inl (.inr ⟨x,m,h1⟩)
    ·have h1:x=s:=by simpa using h1
     subst h1;exact .inr fun h=>h.1 m
    ·exact .inr fun h=>h1 h.2
   ·rintro((h1 | ⟨x,m,h1⟩) | h1)
    ·exact absurd h1 h'
    ·exact .inl ⟨x,m, .inl h1⟩
    ·by_cases m:s∈l
     ·exact .inl ⟨s,m, .inr (.inl rfl)⟩
     ·exact .inr fun h=>h1 ⟨m,h⟩
theorem D8 (l:List ay):fY l=true↔¬ l.Nodup:=by
 unfold fY;rw [Jg];simp
theorem Ps (a b:List ay):fY (a++b)=(fY a || (fY b || b.any (eH a))):=by
 have h:fY (a++b)=true↔(fY a || (fY b || b.any (eH a)))=true:=by
  rw [D8,List.nodup_append]
  simp only [Bool.or_eq_true,D8,List.any_eq_true,iX]
  constructor
  ·intro h
   by_cases ha:a.Nodup
   ·by_cases hb:b.Nodup
    ·refine .inr (.inr (Classical.byContradiction fun hn=>h ⟨ha,hb,fun x hx y hy e=>hn ⟨y,hy,e ▸ hx⟩⟩))
    ·exact .inr (.inl hb)
   ·exact .inl ha
  ·rintro(h | h | ⟨x,h1,h2⟩) ⟨h3,h4,h5⟩
   ·exact h h3
   ·exact h h4
   ·exact h5 x h2 x h1 rfl
 cases h1:fY (a++b) <;> cases h2:(fY a || (fY b || b.any (eH a))) <;> simp_all
theorem G3 (name:ay) : ∀ (l:List Pc) (k:Nat),(jW name l=none∧nj name (k:Int) (l.map (·.name)) = -1)∨∃ f j,jW name l=some f∧l[j]? = some f∧nj name (k:Int) (l.map (·.name))=((k+j:Nat):Int)
 | [],k=> .inl ⟨rfl,rfl⟩
 | f::l,k=>by
  by_cases h:f.name=name
  ·subst h
   refine .inr ⟨f,0,by simp [jW],rfl,by simp [nj]⟩
  ·have h1:(f.name==name)=false:=by simp [h]
   have h2:(name==f.name)=false:=by simp [Ne.symm h]
   simp only [jW,h1,Bool.false_eq_true,if_false,List.map_cons,nj,h2]
   rcases G3 name l (k+1)with ⟨g1,g2⟩ | ⟨g,j,g1,g2,g3⟩
   ·exact .inl ⟨g1,by rw [← g2];rfl⟩
   ·refine .inr ⟨g,j+1,g1,by simpa using g2, ?_⟩
    rw [show((k:Int)+1)=((k+1:Nat):Int)from rfl,g3]
    congr 1;omega
theorem qU {name:ay} {f:Pc} : ∀ {l:List Pc},jW name l=some f→f∈l∧f.name=name
 | g::l,h=>by
  simp only [jW]at h
  split at h
  ·rename_i e;cases h;exact⟨List.mem_cons_self,by simpa using e⟩
  ·have:=qU h;exact⟨List.mem_cons_of_mem _ this.1,this.2⟩
mutual
theorem Pu (deep b5:Int) (aX:Bool) (out:List It) : ∀ s:Sm,∃ e,iA deep b5 aX out s=out++e
 | ⟨id,kind,labels,name,proc,x,has,args,a7,e⟩=>by
  simp only [iA]
  split
  ·obtain⟨e1,h1⟩:=rQ (deep+1) id false (out++ [⟨⟨id,kind,labels,name,proc,x,has,args,a7,e⟩,deep,b5,aX⟩]) a7
   obtain⟨e2,h2⟩:=rQ (deep+1) id true (eQ (deep+1) id false (out++ [⟨⟨id,kind,labels,name,proc,x,has,args,a7,e⟩,deep,b5,aX⟩]) a7) e
   rw [h2,h1]
   exact⟨_,by rw [List.append_assoc,List.append_assoc]⟩
  ·exact⟨_,rfl⟩
theorem rQ (deep b5:Int) (aX:Bool) (out:List It) : ∀ l:List Sm,∃ e,eQ deep b5 aX out l=out++e
 | []=>⟨[],by simp [eQ]⟩
 | s::l=>by
  simp only [eQ]
  split
  ·obtain⟨e1,h1⟩:=Pu deep b5 aX out s
   obtain⟨e2,h2⟩:=rQ deep b5 aX (iA deep b5 aX out s) l
   rw [h2,h1]
   exact⟨_,by rw [List.append_assoc]⟩
  ·exact⟨[],by simp⟩
end
mutual
theorem Pv (deep b5:Int) (aX:Bool) (out:List It) : ∀ s:Sm,(iA deep b5 aX out s).length≤200→(∀ i∈iA deep b5 aX out s,i.deep≤12)→(iA deep b5 aX out s).map It.s=out.map It.s++s.pre
 | ⟨id,kind,labels,name,proc,x,has,args,a7,e⟩,h1,h2=>by
  simp only [iA,Sm.pre]at h1 h2 ⊢
  by_cases hd:deep≤12
  ·simp only [hd,decide_true,if_true]at h1 h2 ⊢
   obtain⟨e2,g2⟩:=rQ (deep+1) id true (eQ (deep+1) id false (out++ [⟨⟨id,kind,labels,name,proc,x,has,args,a7,e⟩,deep,b5,aX⟩]) a7) e
   have k1:(eQ (deep+1) id false (out++ [⟨⟨id,kind,labels,name,proc,x,has,args,a7,e⟩,deep,b5,aX⟩]) a7).length≤200:=by
    rw [g2,List.length_append]at h1;omega
   have k2 : ∀ i∈eQ (deep+1) id false (out++ [⟨⟨id,kind,labels,name,proc,x,has,args,a7,e⟩,deep,b5,aX⟩]) a7,i.deep≤12:=fun i m=>h2 i (by rw [g2];exact List.mem_append_left _ m)
   rw [uR (deep+1) id true _ e h1 h2,uR (deep+1) id false _ a7 k1 k2]
   simp
  ·simp only [hd,decide_false,Bool.false_eq_true,if_false]at h1 h2
   exact absurd (h2 _ (List.mem_append_right _ (List.mem_singleton.2 rfl))) (by simpa using hd)
theorem uR (deep b5:Int) (aX:Bool) (out:List It) : ∀ l:List Sm,(eQ deep b5 aX out l).length≤200→(∀ i∈eQ deep b5 aX out l,i.deep≤12)→(eQ deep b5 aX out l).map It.s=out.map It.s++Sm.dH l
 | [],h1,h2=>by simp [eQ,Sm.dH]
 | s::l,h1,h2=>by
  simp only [eQ,Sm.dH]at h1 h2 ⊢
  by_cases hc:(out.length:Int)≤200
  ·simp only [hc,decide_true,if_true]at h1 h2 ⊢
   obtain⟨e2,g2⟩:=rQ deep b5 aX (iA deep b5 aX out s) l
   have k1:(iA deep b5 aX out s).length≤200:=by rw [g2,List.length_append]at h1;omega
   have k2 : ∀ i∈iA deep b5 aX out s,i.deep≤12:=fun i m=>h2 i (by rw [g2];exact List.mem_append_left _ m)
   rw [uR deep b5 aX _ l h1 h2,Pv deep b5 aX out s k1 k2]
   simp
  ·simp only [hc,decide_false,Bool.false_eq_true,if_false]at h1
   omega
end
theorem G4 : ∀ (l:List Pc) (out:List It),(allM out l).length≤200→(∀ i∈allM out l,i.deep≤12)→(∀ f∈l,f.flat.map It.s=Sm.dH f.body)∧(allM out l).map It.s=out.map It.s++(l.map fun f=>Sm.dH f.body).flatten
 | [],out,h1,h2=>⟨fun f m=>(by cases m),by simp [allM]⟩
 | f::l,out,h1,h2=>by
  simp only [allM]at h1 h2 ⊢
  by_cases hc:(((out++f.flat).length:Nat):Int) > 200
  ·simp only [hc,decide_true,if_true]at h1;omega
  ·simp only [hc,decide_false,Bool.false_eq_true,if_false]at h1 h2 ⊢
   obtain⟨k1,k2⟩:=G4 l (out++f.flat) h1 h2
   have vE : ∀ (l:List Pc) (out:List It),∃ e,allM out l=out++e:=by
    intro l
    induction l with
    | nil=>intro out;exact⟨[],by simp [allM]⟩
    | cons g l ih=>
     intro out
     simp only [allM]
     split
     ·exact⟨_,rfl⟩
     ·obtain⟨e,h⟩:=ih (out++g.flat);exact⟨g.flat++e,by rw [h];simp⟩
   obtain⟨e,he⟩:=vE l (out++f.flat)
   have k3:f.flat.map It.s=Sm.dH f.body:=by
    have:=uR 1 0 false [] f.body (by
     have:f.flat.length≤200:=by simp only [List.length_append]at hc;omega
     exact this) (fun i m=>h2 i (by rw [he];exact List.mem_append_left _ (List.mem_append_right _ m)))
    simpa [Pc.flat]using this
   refine⟨fun g m=> ?_, ?_⟩
   ·rcases List.mem_cons.1 m with rfl | m
    ·exact k3
    ·exact k1 g m
   ·rw [k2];simp [k3]
theorem y4 : ∀ (l:List It) (n:Nat),It.cY n l=true→(∀ i∈l,i.deep≤12)∧∀ (j:Nat) (i:It),l[j]? = some i→i.s.id=((n+j+1:Nat):Int)
 | [],n,h=>⟨fun i m=>(by cases m),fun j i h=>by simp at h⟩
 | a::l,n,h=>by
  simp only [It.cY]at h
  split at h
  ·cases h
  ·rename_i c
   simp only [Bool.or_eq_true,not_or,bne_iff_ne,ne_eq,Decidable.not_not,decide_eq_true_eq,Int.not_lt,gt_iff_lt]at c
   obtain⟨k1,k2⟩:=y4 l (n+1) h
   refine⟨fun i m=> ?_,fun j i hj=> ?_⟩
   ·rcases List.mem_cons.1 m with rfl | m
    ·exact c.1.2
    ·exact k1 i m
   ·cases j with
    | zero=>simp at hj;subst hj;rw [c.1.1]
    | succ j=>simp at hj;rw [k2 j i hj];congr 1;omega
theorem Jh {p:Pg} (h:p.may=true):p.all.length≤200∧It.cY 0 p.all=true:=by
 unfold Pg.may at h
 split at h
 ·cases h
 ·split at h
  ·cases h
  ·split at h
   ·cases h
   ·rename_i c
    exact⟨by simp only [decide_eq_true_eq,Int.not_lt,gt_iff_lt]at c;omega,h⟩
theorem S4 {p:Pg} (h:p.may=true):(∀ f∈p.procs,f.flat.map It.s=Sm.dH f.body)∧p.all.map It.s=p.pre:=by
 obtain⟨h1,h2⟩:=Jh h
 have:=G4 p.procs [] h1 (y4 _ 0 h2).1
 simpa [Pg.pre,Pg.all]using this
theorem aaj {p:Pg} (h:p.may=true) {i:Nat} {v:Sm} (hv:p.pre[i]? = some v):v.id=((i+1:Nat):Int):=by
 rw [← (S4 h).2,List.getElem?_map,Option.map_eq_some_iff]at hv
 obtain⟨it,h1,rfl⟩:=hv
 have:=(y4 _ 0 (Jh h).2).2 i it h1
 rw [this];congr 1;omega
end Go.Abs

/-! Sc4 -/

namespace Go.Abs
set_option maxRecDepth 8000
open Go.Proofs
structure Pg.kc (p:Pg):Prop where
 S5:p.Mr
 sz:p.size≤900000
mutual
theorem aak : ∀ s:Sm,s.xj→s.size<1000000→∀ v∈s.pre,v.oR∧v.ma
 | ⟨id,kind,labels,name,proc,x,has,args,a7,aX⟩,h,hs,v,m=>by
  simp only [Sm.xj]at h
  simp only [Sm.size]at hs
  simp only [Sm.pre,List.mem_cons,List.mem_append]at m
  rcases m with rfl | m | m
  ·exact⟨⟨h.1.xt,fun a ha=>(h.1.arg a ha).2.1,by dsimp only;omega⟩,h.1⟩
  ·exact zA a7 h.2.1 (by omega) v m
  ·exact zA aX h.2.2 (by omega) v m
theorem zA : ∀ l:List Sm,Sm.mb l→Sm.aR l<1000000→∀ v∈Sm.dH l,v.oR∧v.ma
 | [],h,hs,v,m=>by simp [Sm.dH]at m
 | s::l,h,hs,v,m=>by
  simp only [Sm.mb]at h
  simp only [Sm.aR]at hs
  simp only [Sm.dH,List.mem_append]at m
  rcases m with m | m
  ·exact aak s h.1 (by omega) v m
  ·exact zA l h.2 (by omega) v m
end
theorem Pg.kc.said {p:Pg} (h:p.kc) {f:Pc} (hf:f∈p.procs) : ∀ v∈Sm.dH f.body,v.oR:=fun v m=>by
 have h1:=Pc.cd hf
 have h2:=h.sz
 simp only [Pg.size]at h2
 simp only [Pc.size]at h1
 exact(zA f.body (h.S5.body f hf) (by omega) v m).1
theorem Pg.kc.small {p:Pg} (h:p.kc) {f:Pc} (hf:f∈p.procs):f.Small p:=by
 have h1:=Pc.cd hf
 have h2:=h.sz
 simp only [Pg.size]at h2
 simp only [Pc.size]at h1
 exact⟨by omega,by omega,by omega⟩
theorem Pg.kc.procs {p:Pg} (h:p.kc):p.procs.length≤900000∧Pc.aR p.procs≤900000∧p.globals.length≤900000:=by
 have h2:=h.sz
 have h3:=Pc.c9 p.procs
 simp only [Pg.size]at h2
 omega
def Pg.pn (p:Pg):List ay:=p.procs.map (·.name)
def y5 (p:Pg) (f:Pc) (procs:List ay):List Sm→Option Sm
 | []=>none
 | v::l=>if v.known p f procs then y5 p f procs l else some v
def rR (p:Pg) (procs:List ay):List Pc→Int×Int
 | []=>(0,0)
 | f::l=>if fY (p.globals++f.own)then(5,0)else match y5 p f procs (Sm.dH f.body)with | some v=>(5,v.id) | none=>rR p procs l
def Pg.wA (p:Pg):Bool:=match p.find qn with | none=>true | some m=>decide ((m.params.length:Int) > 0)
def Pg.scope (p:Pg):Int×Int:=
 if p.may then if fY p.globals || (fY p.pn || p.wA)then(5,0)else rR p p.pn p.procs else(1,0)
theorem S6 (p:Pg) (hl:p.globals.length<1000000) (n:ay):aD Tryz.prog nC ([.str n]++ [.ptr 0 0]) ⟨[cB p],[]⟩ (.bool (eH p.globals n)) ⟨[cB p],[]⟩:=by
 show aD Tryz.prog nC [.str n, .ptr 0 0] _ _ _
 have si:=iB (l:=p.globals) (by omega) n
 refine aD.go zJ rfl fun B Q hB hQ=> ?_
 have⟨hC,hE,hF,hM⟩:=bL
 repeat' (first
 | simp only [go_sem,hC,hE,hF,hM]
 | (with_reducible refine CU (si _ _) ?_)
 | (with_reducible refine aH hQ ?_;simp only [aA,aB,Option.some.injEq,exists_eq_left',go_sem,hC,hE,hF,hM];repeat' (first | exact Ok.out | with_reducible refine aJ ?_ ?_ | (simp;done))))
theorem adT (n m:Nat) (p:Pg):D.gE n m (gM p)=gM p:=gT n m _ (xg p)
attribute [go_sem] adT
theorem W3 {p:Pg} {f:Pc} {procs:List ay} {v:Sm} (hs:f.Small p) (Af:procs.length<1000000) (hv:v.oR) (g:Tag) (s:St):aD Tryz.prog o7 [.agg (cB p), .agg (cL f), .slice g 1 (procs.map encStr), .agg (bh v)] s (.bool (v.known p f procs)) s:=
 dT.yC (.cons (Wk.refl _) (.cons (Wk.refl _) (.cons (Wk.shared g 1 _) (lV.refl _)))) (W2 hs Af hv s)
theorem tM {p:Pg} (h:p.kc) (s:St):aD Tryz.prog kV [.agg (cB p)] s (.agg [.int .i64 p.scope.1, .int .i64 p.scope.2]) s:=by
 refine aD.pure ?_ (by simp [D.bT,D.ok,jC]) rfl s
 have hm:=fun s=>Pa h.S5 s
 simp only [Dr]at hm
 obtain⟨sj,sB,xU⟩:=h.procs
 have dS:=fun s=>BT (p:=p) (by omega) s
 have oq:=fun s=>AT (l:=p.globals) (by omega) .shared s
 have hpn:p.pn.length=p.procs.length:=by simp [Pg.pn]
 have Bo:=fun g s=>AT (l:=p.pn) (by omega) g s
 have hix:=fun g s=>(Jc (l:=p.pn) (by omega) qn s).O4 (Wk.shared g 1 (p.pn.map encStr))
 have AU:=fun g s=>(show aD Tryz.prog ie [.slice g 1 (p.pn.map encStr), .str [109,97,105,110]] s (.int .i64 (nj qn 0 p.pn)) s from hix g s)
 generalize hR:p.scope=R
 simp only [Pg.scope]at hR
 unfold S0
 rcases Bool.eq_false_or_eq_true p.may with hb | hb
 case inr=>
  simp only [hb]at hm
  simp only [hb,Bool.false_eq_true,if_false]at hR
  subst hR
  refine aD.go uF rfl fun B Q hB hQ=> ?_
  have⟨hC,hE,hF,hM⟩:=bL
  repeat' (first
 | simp only [go_sem,hC,hE,hF,hM]
 | (with_reducible refine CU (hm _) ?_)
 | (with_reducible refine aH hQ ?_;simp only [aA,aB,Option.some.injEq,exists_eq_left',go_sem,hC,hE,hF,hM];repeat' (first | exact Ok.out | with_reducible refine aJ ?_ ?_ | (simp;done))))
 simp only [hb]at hm
 simp only [hb,if_true]at hR
 refine aD.go uF rfl fun B Q hB hQ=> ?_
 have⟨hC,hE,hF,hM⟩:=bL
 repeat' (first
 | simp only [go_sem,hC,hE,hF,hM]
 | (with_reducible refine CU (hm _) ?_)
 | (with_reducible refine aH hQ ?_;simp only [aA,aB,Option.some.injEq,exists_eq_left',go_sem,hC,hE,hF,hM];repeat' (first | exact Ok.out | with_reducible refine aJ ?_ ?_ | (simp;done))))
 refine bw.pf 3 1 rfl ?_
 simp only [go_sem,hC,hE,hF,hM]
 refine dc 2 1 (bw.ind (ι:=List Pc×Nat×List ay×Nat) (fun i=>p.procs.drop i.2.1=i.1∧i.2.2.1++i.1.map (·.name)=p.pn∧i.2.2.2=i.2.2.1.length) (fun i=>i.1.length)
  (fun i=> [(1, .ptr 0 0),(2, .ptr 1 0),(3, .slice (.tok 0) 1 (i.2.2.1.map encStr)),(18, .slice .shared 5 (p.procs.map cL)),(19, .int .i64 (p.procs.length:Int)),(20, .int .i64 (i.2.1:Int))]) (fun i=>⟨[cB p,[.int .i64 0, .int .i64 0]],[some i.2.2.2]⟩) ?_ (p.procs,0,[],0) ⟨rfl,rfl,rfl⟩)
 rintro⟨rest,k,out,n⟩ ⟨h1,h2,h3⟩ IH
 dsimp only at h1 h2 h3
 subst h3
 have hlo:out.length+rest.length≤900000:=by
  have:=congrArg List.length h2
  simp only [List.length_append,List.length_map]at this
  omega
 cases rest with
 | cons a rest=>
  obtain⟨hE,g2,hC,g4⟩:=drop_cons h1
  have bS:k<4611686018427387904:=by omega
  have hF:(out.length+1)*17≤bQ:=by unfold bQ;omega
  repeat' (first
 | simp only [go_sem,hC,hE,hF,hM]
 | (with_reducible refine aH hQ ?_;simp only [aA,aB,Option.some.injEq,exists_eq_left',go_sem,hC,hE,hF,hM];repeat' (first | exact Ok.out | with_reducible refine aJ ?_ ?_ | (simp;done))))
  refine dV 2 1 ?_ ?_ (IH (rest,k+1,out++ [a.name],out.length+1) ⟨g2,by rw [← h2];simp,by simp⟩ (Nat.lt_succ_self _))
  ·(simp only [go_sem,hC,hE,hF,hM,aP bS,List.map_append,List.map_cons,List.map_nil,encStr];try exact bR)
  ·(simp only [go_sem,hC,hE,hF,hM,aP bS,List.map_append,List.map_cons,List.map_nil,encStr];try exact bR)
 | nil=>
  have hC:=drop_nil h1
  simp only [List.map_nil,List.append_nil]at h2
  subst h2
  rcases Bool.eq_false_or_eq_true (fY p.globals)with b1 | b1
  ·simp only [b1,Bool.true_or,if_true]at hR
   subst hR
   repeat' (first
 | simp only [go_sem,hC,hE,hF,hM,b1]
 | (with_reducible refine CU (AU _ _) ?_)
 | (with_reducible refine CU (oq _) ?_)
 | (with_reducible refine CU (Bo _ _) ?_)
 | (with_reducible refine aH hQ ?_;simp only [aA,aB,Option.some.injEq,exists_eq_left',go_sem,hC,hE,hF,hM];repeat' (first | exact Ok.out | with_reducible refine aJ ?_ ?_ | (simp;done))))
  rcases Bool.eq_false_or_eq_true (fY p.pn)with b2 | b2
  ·simp only [b1,b2,Bool.true_or,Bool.or_true,if_true]at hR
   subst hR
   repeat' (first
 | simp only [go_sem,hC,hE,hF,hM,b1,b2]
 | (with_reducible refine CU (AU _ _) ?_)
 | (with_reducible refine CU (oq _) ?_)
 | (with_reducible refine CU (Bo _ _) ?_)
 | (with_reducible refine aH hQ ?_;simp only [aA,aB,Option.some.injEq,exists_eq_left',go_sem,hC,hE,hF,hM];repeat' (first | exact Ok.out | with_reducible refine aJ ?_ ?_ | (simp;done))))
  rcases G3 qn p.procs 0 with ⟨e1,e2⟩ | ⟨m,j,e1,e2,e3⟩
  ·have b3:p.wA=true:=by unfold Pg.wA Pg.find;rw [e1]
   have hi:nj qn 0 p.pn = -1:=e2
   simp only [b1,b2,b3,Bool.or_true,if_true]at hR
   subst hR
   simp only [hi]at AU
   have d1:decide ((-1:Int)<0)=true:=by decide
   repeat' (first
 | simp only [go_sem,hC,hE,hF,hM,b1,b2,d1]
 | (with_reducible refine CU (AU _ _) ?_)
 | (with_reducible refine CU (oq _) ?_)
 | (with_reducible refine CU (Bo _ _) ?_)
 | (with_reducible refine aH hQ ?_;simp only [aA,aB,Option.some.injEq,exists_eq_left',go_sem,hC,hE,hF,hM];repeat' (first | exact Ok.out | with_reducible refine aJ ?_ ?_ | (simp;done))))
  have hi:nj qn 0 p.pn=((j:Nat):Int):=by rw [show p.pn=p.procs.map (·.name)from rfl];simpa using e3
  simp only [hi]at AU
  have d1:decide (((j:Nat):Int)<0)=false:=by simp
  have hj:j<p.procs.length:=(List.getElem?_eq_some_iff.1 e2).1
  have b3:p.wA=decide ((m.params.length:Int) > 0):=by unfold Pg.wA Pg.find;rw [e1]
  rw [b3]at hR
  rcases Bool.eq_false_or_eq_true (decide ((m.params.length:Int) > 0))with b4 | b4
  ·simp only [b1,b2,b4,Bool.or_true,if_true]at hR
   subst hR
   repeat' (first
 | simp only [go_sem,hC,hE,hF,hM,b1,b2,d1,e2,b4]
 | (with_reducible refine CU (AU _ _) ?_)
 | (with_reducible refine CU (oq _) ?_)
 | (with_reducible refine CU (Bo _ _) ?_)
 | (with_reducible refine aH hQ ?_;simp only [aA,aB,Option.some.injEq,exists_eq_left',go_sem,hC,hE,hF,hM];repeat' (first | exact Ok.out | with_reducible refine aJ ?_ ?_ | (simp;done))))
  simp only [b1,b2,b4,Bool.or_false,Bool.false_eq_true,if_false]at hR
  repeat' (first
 | simp only [go_sem,hC,hE,hF,hM,b1,b2,d1,e2,b4]
 | (with_reducible refine CU (AU _ _) ?_)
 | (with_reducible refine CU (oq _) ?_)
 | (with_reducible refine CU (Bo _ _) ?_)
 | (with_reducible refine CU (dS _) ?_)
 | (with_reducible refine aH hQ ?_;simp only [aA,aB,Option.some.injEq,exists_eq_left',go_sem,hC,hE,hF,hM];repeat' (first | exact Ok.out | with_reducible refine aJ ?_ ?_ | (simp;done))))
  refine dc 2 1 (bw.ind (ι:=List Pc×Nat) (fun i=>p.procs.drop i.2=i.1∧rR p p.pn i.1=R) (fun i=>i.1.length)
   (fun i=> [(1, .ptr 0 0),(2, .ptr 1 0),(3, .slice (.tok 0) 1 (p.pn.map encStr)),(7, .dD (gM p) 0),(57, .slice .shared 5 (p.procs.map cL)),(58, .int .i64 (p.procs.length:Int)),(59, .int .i64 (i.2:Int))]) (fun i=>⟨[cB p,[.int .i64 0, .int .i64 0]],[some p.pn.length]⟩) ?_ (p.procs,0) ⟨rfl,hR⟩)
  clear IH h1 hC hR
  rintro⟨rest,k⟩ ⟨h1,hR⟩ IH
  dsimp only at h1 hR
  cases rest with
  | nil=>
   have hC:=drop_nil h1
   simp only [rR]at hR
   subst hR
   repeat' (first
 | simp only [go_sem,hC,hE,hF,hM]
 | (with_reducible refine aH hQ ?_;simp only [aA,aB,Option.some.injEq,exists_eq_left',go_sem,hC,hE,hF,hM];repeat' (first | exact Ok.out | with_reducible refine aJ ?_ ?_ | (simp;done))))
  | cons f rest=>
   obtain⟨hE,g2,hC,g4⟩:=drop_cons h1
   have bS:k<4611686018427387904:=by omega
   have xV:=List.mem_of_getElem? hE
   have D9:=h.small xV
   have Pw:=fun s=>adS (f:=f) D9.par D9.vars s
   have oH:f.own.length<4611686018427387904:=by have h1:=D9.par;have h2:=D9.vars;unfold Pc.own Pc.B6;simp;omega
   have Ea:=fun s=>AT (l:=f.own) oH .shared s
   have xX:=fun {s:St} {o:Nat} (ho:s.az[o]? = some (cB p))=>wv (l:=f.own) oH (f:=nC) (row:=cB p) (b:=eH p.globals) (jC p) (by with_unfolding_all rfl) (fun x _=>S6 p D9.GU x) ho
   have S7:=fun {s:St} {o:Nat} (ho:s.az[o]? = some (cB p))=>(show aD Tryz.prog fl [.slice .shared 1 (f.own.map encStr), .ga 63 [.ptr o 0]] s (.bool (f.own.any (eH p.globals))) s from xX ho)
   simp only [rR,Ps,b1,Bool.false_or]at hR
   rcases Bool.eq_false_or_eq_true (fY f.own)with c1 | c1
   ·simp only [c1,Bool.true_or,if_true]at hR
    subst hR
    repeat' (first
 | simp only [go_sem,hC,hE,hF,hM,c1]
 | (with_reducible refine CU (Pw _) ?_)
 | (with_reducible refine CU (Ea _) ?_)
 | (with_reducible refine CU (S7 (by with_unfolding_all rfl)) ?_)
 | (with_reducible refine aH hQ ?_;simp only [aA,aB,Option.some.injEq,exists_eq_left',go_sem,hC,hE,hF,hM];repeat' (first | exact Ok.out | with_reducible refine aJ ?_ ?_ | (simp;done))))
   rcases Bool.eq_false_or_eq_true (f.own.any (eH p.globals))with c2 | c2
   ·simp only [c1,c2,Bool.false_or,if_true]at hR
    subst hR
    repeat' (first
 | simp only [go_sem,hC,hE,hF,hM,c1,c2]
 | (with_reducible refine CU (Pw _) ?_)
 | (with_reducible refine CU (Ea _) ?_)
 | (with_reducible refine CU (S7 (by with_unfolding_all rfl)) ?_)
 | (with_reducible refine aH hQ ?_;simp only [aA,aB,Option.some.injEq,exists_eq_left',go_sem,hC,hE,hF,hM];repeat' (first | exact Ok.out | with_reducible refine aJ ?_ ?_ | (simp;done))))
   simp only [c1,c2,Bool.or_self,Bool.false_eq_true,if_false]at hR
   obtain⟨it,wz,B7⟩:=SK hE (by omega)
   rw [← wz]at hR
   have aal:it.length≤900000:=by
    have e:=congrArg List.length wz
    have e2:=(pE p).2 k f hE
    obtain⟨a,b,e',_,_,e3,e4⟩:=e2
    have e5:=pF p
    have e6:=congrArg List.length e3
    rw [e4]at e5
    simp only [List.length_map,List.length_append]at e e5 e6
    omega
   repeat' (first
 | simp only [go_sem,hC,hE,hF,hM,c1,c2]
 | (with_reducible refine CU (Pw _) ?_)
 | (with_reducible refine CU (Ea _) ?_)
 | (with_reducible refine CU (S7 (by with_unfolding_all rfl)) ?_)
 | (with_reducible refine CU (B7 _) ?_)
 | (with_reducible refine aH hQ ?_;simp only [aA,aB,Option.some.injEq,exists_eq_left',go_sem,hC,hE,hF,hM];repeat' (first | exact Ok.out | with_reducible refine aJ ?_ ?_ | (simp;done))))
   obtain⟨q,hq⟩ : ∃ q,y5 p f p.pn (it.map Im.s)=q:=⟨_,rfl⟩
   rw [hq]at hR
   refine dc 3 1 (bw.ind (ι:=List Im×Nat) (fun i=>it.drop i.2=i.1∧y5 p f p.pn (i.1.map Im.s)=q) (fun i=>i.1.length)
    (fun i=> [(1, .ptr 0 0),(2, .ptr 1 0),(3, .slice (.tok 0) 1 (p.pn.map encStr)),(7, .dD (gM p) 0),(9, .ptr 2 0),(57, .slice .shared 5 (p.procs.map cL)),(58, .int .i64 (p.procs.length:Int)),(59, .int .i64 (k:Int)),(76, .slice .shared 17 (it.map eC)),(77, .int .i64 (it.length:Int)),(78, .int .i64 (i.2:Int))]) (fun i=>⟨[cB p,[.int .i64 0, .int .i64 0],cL f],[some p.pn.length]⟩) ?_ (it,0) ⟨rfl,hq⟩)
   rintro⟨oZ,n⟩ ⟨j1,j2⟩ VA
   dsimp only at j1 j2
   have zT:=hC
   cases oZ with
   | nil=>
    have alY:=drop_nil j1
    simp only [List.map_nil,y5]at j2
    subst j2
    simp only at hR
    repeat' (first
 | simp only [go_sem,hC,hE,hF,hM,alY]
 | (with_reducible refine aH hQ ?_;simp only [aA,aB,Option.some.injEq,exists_eq_left',go_sem,hC,hE,hF,hM];repeat' (first | exact Ok.out | with_reducible refine aJ ?_ ?_ | (simp;done))))
    refine dV 2 1 ?_ ?_ (IH (rest,k+1) ⟨g2,hR⟩ (Nat.lt_succ_self _))
    ·(simp only [go_sem,hC,hE,hF,hM,aP bS];try exact bR)
    ·(simp only [go_sem,hC,hE,hF,hM,aP bS];try exact bR)
   | cons i oZ=>
    obtain⟨nZ,Ji,wB,jg4⟩:=drop_cons j1
    have rO:n<4611686018427387904:=by omega
    have Eb:i.s∈Sm.dH f.body:=by rw [← wz];exact List.mem_map_of_mem (List.mem_of_getElem? nZ)
    have hkn:=W3 (v:=i.s) D9 (procs:=p.pn) (by omega) (h.said xV _ Eb)
    simp only [List.map_cons,y5]at j2
    rcases Bool.eq_false_or_eq_true (i.s.known p f p.pn)with c3 | c3
    ·simp only [c3,if_true]at j2
     repeat' (first
 | simp only [go_sem,hC,hE,hF,hM,wB,nZ,c3]
 | (with_reducible refine CU (hkn _ _) ?_)
 | (with_reducible refine aH hQ ?_;simp only [aA,aB,Option.some.injEq,exists_eq_left',go_sem,hC,hE,hF,hM];repeat' (first | exact Ok.out | with_reducible refine aJ ?_ ?_ | (simp;done))))
     refine dV 3 1 ?_ ?_ (VA (oZ,n+1) ⟨Ji,j2⟩ (Nat.lt_succ_self _))
     ·(simp only [go_sem,hC,hE,hF,hM,aP rO];try exact bR)
     ·(simp only [go_sem,hC,hE,hF,hM,aP rO];try exact bR)
    ·simp only [c3,Bool.false_eq_true,if_false]at j2
     subst j2
     simp only at hR
     subst hR
     repeat' (first
 | simp only [go_sem,hC,hE,hF,hM,wB,nZ,c3]
 | (with_reducible refine CU (hkn _ _) ?_)
 | (with_reducible refine aH hQ ?_;simp only [aA,aB,Option.some.injEq,exists_eq_left',go_sem,hC,hE,hF,hM];repeat' (first | exact Ok.out | with_reducible refine aJ ?_ ?_ | (simp;done))))
end Go.Abs

/-! Rng -/

namespace Go.Abs
mutual
def Ex.Jj:Ex→Prop
 | ⟨_,n,_,kids⟩=>n≤9223372036854775807∧Ex.AV kids
def Ex.AV:List Ex→Prop
 | []=>True
 | x::l=>x.Jj∧Ex.AV l
end
end Go.Abs

/-! FineM -/

namespace Go.Abs
mutual
def Sm.Jj:Sm→Prop
 | ⟨_,_,_,_,_,x,_,args,a7,aX⟩=>x.Jj∧(∀ a∈args,a.x.Jj)∧Sm.AV a7∧Sm.AV aX
def Sm.AV:List Sm→Prop
 | []=>True
 | s::l=>s.Jj∧Sm.AV l
end
def Pg.Jj (p:Pg):Prop:=∀ f∈p.procs,Sm.AV f.body
theorem Ec {f:Pc} : ∀ {l:List Pc} {n:Nat},Pc.eA n l=true→f∈l→(isName f.name=true∧bX f.vars=true∧bX f.fin=true∧Pm.cY f.params=true)∧∃ n,(Sm.fA 1 n f.body).1=true
 | g::l,n,h,m=>by
  simp only [Pc.eA]at h
  split at h
  ·cases h
  rename_i c1
  split at h
  ·cases h
  rename_i c2
  split at h
  ·cases h
  rename_i c3
  simp only [Bool.or_eq_true,Bool.not_eq_true',not_or,Bool.not_eq_false]at c1 c2 c3
  rcases List.mem_cons.1 m with rfl | m
  ·exact⟨⟨c1.1.1.2,c1.1.2,c1.2,c2⟩,n,c3⟩
  ·exact Ec h m
mutual
theorem Mu : ∀ (s:Sm) (nest:Int) (n:Nat),(Sm.oB nest n s).1=true→s.size<4611686018427387000→s.xj
 | ⟨id,kind,labels,name,proc,x,has,args,a7,aX⟩,nest,n,hm,hs=>by
  obtain⟨_,_,h1,h2,h3,_⟩:=D6 hm
  rw [GV]
  rw [(rP h2).2]at h2
  rw [(rP h3).2]at h3
  refine⟨GZ h1 hs,sS a7 _ _ h2 ?_,sS aX _ _ h3 ?_⟩ <;> simp only [Sm.size]at hs <;> omega
theorem sS : ∀ (l:List Sm) (nest:Int) (n:Nat),(Sm.eA nest n l).1=true→Sm.aR l<4611686018427387000→Sm.mb l
 | [],_,_,_,_=>by simp only [Sm.mb]
 | s::l,nest,n,hm,hs=>by
  simp only [Sm.eA]at hm
  simp only [Sm.aR]at hs
  split at hm
  ·cases hm
  rename_i hc
  simp only [Bool.not_eq_true',Bool.not_eq_false]at hc
  exact⟨Mu s nest n hc (by omega),sS l nest _ hm (by omega)⟩
end
theorem uS {p:Pg} (h:p.may=true) (hs:p.size<4611686018427387000):p.Mr:=by
 have hf:=SS h hs
 rw [← Dr]at h
 unfold Pg.Dp at h
 split at h
 ·cases h
 refine⟨hf.sz,hf.GU,hf.mL,fun f m=> ?_⟩
 obtain⟨_,n,e⟩:=Ec h m
 rw [(rP e).2]at e
 have:=Pc.cd m
 simp only [Pg.size]at hs
 exact sS f.body 1 n e (by unfold Pc.size at this;omega)
end Go.Abs

/-! Sc5 -/

namespace Go.Abs
set_option maxRecDepth 8000
open Go.Proofs
theorem S9 (x:It):(iL x)[1]? = some (.int .i64 x.s.kind):=nd rfl
theorem Ta (x:It):(iL x)[3]? = some (.str x.s.name):=nd rfl
theorem Tb (x:It):(iL x)[4]? = some (.str x.s.proc):=nd rfl
theorem W4 (x:It):List.take 16 (iL x)=iL x:=nd rfl
attribute [go_sem] S9 Ta Tb W4
end Go.Abs

/-! Ar1 -/

namespace Go.Abs
set_option maxRecDepth 8000
open Go.Proofs
def B9:List Pm→List Ar→Bool
 | [],_=>true
 | _,[]=>true
 | a::l,b::m=>if a.ref==b.ref then B9 l m else false
def Ca (l:List Pm) (m:List Ar):Bool:=if(l.length:Int)==(m.length:Int)then B9 l m else false
def Sm.rf (p:Pg) (v:Sm):Bool:=v.kind==4 && match p.find v.proc with | none=>false | some q=>Ca q.params v.args
theorem aam {l:List Pm} {m:List Ar} (hl:l.length<1000000000) (hm:m.length<1000000000) (s:St):aD Tryz.prog tv [.slice .shared 2 (l.map ff), .slice .shared 6 (m.map ek)] s (.bool (Ca l m)) s:=by
 refine aD.pure ?_ (by simp [D.bT,D.ok,Tag.ok,LL,Fc]) rfl s
 generalize h:Ca l m=q
 simp only [Ca]at h
 unfold S0
 have b0:((l.length:Int) != (m.length:Int)) = !((l.length:Int)==(m.length:Int)):=rfl
 rcases Bool.eq_false_or_eq_true ((l.length:Int)==(m.length:Int))with b1 | b1
 case inr=>
  rw [b1]at b0
  simp only [b1,Bool.false_eq_true,if_false]at h
  subst h
  refine aD.go we rfl fun B Q hB hQ=> ?_
  have⟨hC,hE,hF,hM⟩:=bL
  repeat' (first
 | simp only [go_sem,hC,hE,hF,hM,b0,Bool.not_false]
 | (with_reducible refine aH hQ ?_;simp only [aA,aB,Option.some.injEq,exists_eq_left',go_sem,hC,hE,hF,hM];repeat' (first | exact Ok.out | with_reducible refine aJ ?_ ?_ | (simp;done))))
 rw [b1]at b0
 simp only [b1,if_true]at h
 have VB:l.length=m.length:=by have:=eq_of_beq b1;omega
 refine aD.go we rfl fun B Q hB hQ=> ?_
 have⟨hC,hE,hF,hM⟩:=bL
 repeat' (first
 | simp only [go_sem,hC,hE,hF,hM,b0,Bool.not_true]
 | (with_reducible refine aH hQ ?_;simp only [aA,aB,Option.some.injEq,exists_eq_left',go_sem,hC,hE,hF,hM];repeat' (first | exact Ok.out | with_reducible refine aJ ?_ ?_ | (simp;done))))
 refine dc 0 0 (bw.ind (ι:=List Pm×List Ar×Nat) (fun i=>l.drop i.2.2=i.1∧m.drop i.2.2=i.2.1∧B9 i.1 i.2.1=q) (fun i=>i.1.length)
  (fun i=> [(1, .slice .shared 6 (m.map ek)),(12, .slice .shared 2 (l.map ff)),(13, .int .i64 (l.length:Int)),(14, .int .i64 (i.2.2:Int))]) (fun i=>⟨[],[]⟩) ?_ (l,m,0) ⟨rfl,rfl,h⟩)
 rintro⟨r1,r2,k⟩ ⟨h1,h2,h⟩ IH
 dsimp only at h1 h2 h
 cases r1 with
 | nil=>
  have hC:=drop_nil h1
  simp only [B9]at h
  subst h
  repeat' (first
 | simp only [go_sem,hC,hE,hF,hM]
 | (with_reducible refine aH hQ ?_;simp only [aA,aB,Option.some.injEq,exists_eq_left',go_sem,hC,hE,hF,hM];repeat' (first | exact Ok.out | with_reducible refine aJ ?_ ?_ | (simp;done))))
 | cons a r1=>
  obtain⟨hE,g2,hC,g4⟩:=drop_cons h1
  cases r2 with
  | nil=>have:=List.drop_eq_nil_iff.1 h2;omega
  | cons b r2=>
   obtain⟨mr,b2,Mv,_⟩:=drop_cons h2
   have bS:k<4611686018427387904:=by omega
   simp only [B9]at h
   have w1:(true==true)=true:=rfl
   have w2:(false==false)=true:=rfl
   have w3:(true==false)=false:=rfl
   have w4:(false==true)=false:=rfl
   have v1:(true != true)=false:=rfl
   have v2:(false != false)=false:=rfl
   have v3:(true != false)=true:=rfl
   have v4:(false != true)=true:=rfl
   rcases Bool.eq_false_or_eq_true a.ref with ea | ea
   ·rcases Bool.eq_false_or_eq_true b.ref with eb | eb
    ·simp only [ea,eb,w1,w2,if_true]at h
     repeat' (first
 | simp only [go_sem,hC,hE,hF,hM,mr,Mv,ea,eb,w1,w2,v1,v2]
 | (with_reducible refine aH hQ ?_;simp only [aA,aB,Option.some.injEq,exists_eq_left',go_sem,hC,hE,hF,hM];repeat' (first | exact Ok.out | with_reducible refine aJ ?_ ?_ | (simp;done))))
     refine dV 0 0 ?_ ?_ (IH (r1,r2,k+1) ⟨g2,b2,h⟩ (Nat.lt_succ_self _))
     ·(simp only [go_sem,hC,hE,hF,hM,aP bS];try exact bR)
     ·(simp only [go_sem,hC,hE,hF,hM,aP bS];try exact bR)
    ·simp only [ea,eb,w3,w4,Bool.false_eq_true,if_false]at h
     subst h
     repeat' (first
 | simp only [go_sem,hC,hE,hF,hM,mr,Mv,ea,eb,w3,w4,v3,v4]
 | (with_reducible refine aH hQ ?_;simp only [aA,aB,Option.some.injEq,exists_eq_left',go_sem,hC,hE,hF,hM];repeat' (first | exact Ok.out | with_reducible refine aJ ?_ ?_ | (simp;done))))
   ·rcases Bool.eq_false_or_eq_true b.ref with eb | eb
    ·simp only [ea,eb,w3,w4,Bool.false_eq_true,if_false]at h
     subst h
     repeat' (first
 | simp only [go_sem,hC,hE,hF,hM,mr,Mv,ea,eb,w3,w4,v3,v4]
 | (with_reducible refine aH hQ ?_;simp only [aA,aB,Option.some.injEq,exists_eq_left',go_sem,hC,hE,hF,hM];repeat' (first | exact Ok.out | with_reducible refine aJ ?_ ?_ | (simp;done))))
    ·simp only [ea,eb,w1,w2,if_true]at h
     repeat' (first
 | simp only [go_sem,hC,hE,hF,hM,mr,Mv,ea,eb,w1,w2,v1,v2]
 | (with_reducible refine aH hQ ?_;simp only [aA,aB,Option.some.injEq,exists_eq_left',go_sem,hC,hE,hF,hM];repeat' (first | exact Ok.out | with_reducible refine aJ ?_ ?_ | (simp;done))))
     refine dV 0 0 ?_ ?_ (IH (r1,r2,k+1) ⟨g2,b2,h⟩ (Nat.lt_succ_self _))
     ·(simp only [go_sem,hC,hE,hF,hM,aP bS];try exact bR)
     ·(simp only [go_sem,hC,hE,hF,hM,aP bS];try exact bR)
end Go.Abs

/-! Ar2 -/

namespace Go.Abs
set_option maxRecDepth 8000
open Go.Proofs
theorem aan {p:Pg} {v:Sm} (h:p.kc) (hv:v.oR) (s:St):aD Tryz.prog tr [.agg (cB p), .agg (bh v)] s (.bool (v.rf p)) s:=by
 refine aD.pure ?_ (by simp [D.bT,D.ok,jC,mC]) rfl s
 obtain⟨sj,sB,xU⟩:=h.procs
 have zY:v.args.length<1000000000:=by have:=Ar.c9 v.args;have:=hv.2.2;omega
 generalize hR:v.rf p=R
 simp only [Sm.rf]at hR
 unfold S0
 have b0:(v.kind != 4) = !(v.kind==4):=rfl
 rcases Bool.eq_false_or_eq_true (v.kind==4)with b1 | b1
 case inr=>
  rw [b1]at b0
  simp only [b1,Bool.false_and]at hR
  subst hR
  refine aD.go vX rfl fun B Q hB hQ=> ?_
  have⟨hC,hE,hF,hM⟩:=bL
  repeat' (first
 | simp only [go_sem,hC,hE,hF,hM,b0,Bool.not_false]
 | (with_reducible refine aH hQ ?_;simp only [aA,aB,Option.some.injEq,exists_eq_left',go_sem,hC,hE,hF,hM];repeat' (first | exact Ok.out | with_reducible refine aJ ?_ ?_ | (simp;done))))
 rw [b1]at b0
 simp only [b1,Bool.true_and,Pg.find]at hR
 refine aD.go vX rfl fun B Q hB hQ=> ?_
 have⟨hC,hE,hF,hM⟩:=bL
 repeat' (first
 | simp only [go_sem,hC,hE,hF,hM,b0,Bool.not_true]
 | (with_reducible refine aH hQ ?_;simp only [aA,aB,Option.some.injEq,exists_eq_left',go_sem,hC,hE,hF,hM];repeat' (first | exact Ok.out | with_reducible refine aJ ?_ ?_ | (simp;done))))
 refine dc 2 0 (bw.ind (ι:=List Pc×Nat) (fun i=>p.procs.drop i.2=i.1∧(match jW v.proc i.1 with | none=>false | some q=>Ca q.params v.args)=R) (fun i=>i.1.length)
  (fun i=> [(3, .ptr 1 0),(11, .slice .shared 5 (p.procs.map cL)),(12, .int .i64 (p.procs.length:Int)),(13, .int .i64 (i.2:Int))]) (fun i=>⟨[cB p,bh v],[]⟩) ?_ (p.procs,0) ⟨rfl,hR⟩)
 clear hR
 rintro⟨rest,k⟩ ⟨h1,hR⟩ IH
 dsimp only at h1 hR
 cases rest with
 | nil=>
  have hC:=drop_nil h1
  simp only [jW]at hR
  subst hR
  repeat' (first
 | simp only [go_sem,hC,hE,hF,hM]
 | (with_reducible refine aH hQ ?_;simp only [aA,aB,Option.some.injEq,exists_eq_left',go_sem,hC,hE,hF,hM];repeat' (first | exact Ok.out | with_reducible refine aJ ?_ ?_ | (simp;done))))
 | cons a rest=>
  obtain⟨hE,g2,hC,g4⟩:=drop_cons h1
  have bS:k<4611686018427387904:=by omega
  have D9:=h.small (List.mem_of_getElem? hE)
  have Vx:=fun s=>aam (l:=a.params) (m:=v.args) (by have:=D9.par;omega) zY s
  simp only [jW]at hR
  rcases Bool.eq_false_or_eq_true (a.name==v.proc)with c1 | c1
  ·simp only [c1,if_true]at hR
   subst hR
   repeat' (first
 | simp only [go_sem,hC,hE,hF,hM,c1]
 | (with_reducible refine CU (Vx _) ?_)
 | (with_reducible refine aH hQ ?_;simp only [aA,aB,Option.some.injEq,exists_eq_left',go_sem,hC,hE,hF,hM];repeat' (first | exact Ok.out | with_reducible refine aJ ?_ ?_ | (simp;done))))
  ·simp only [c1,Bool.false_eq_true,if_false]at hR
   repeat' (first
 | simp only [go_sem,hC,hE,hF,hM,c1]
 | (with_reducible refine aH hQ ?_;simp only [aA,aB,Option.some.injEq,exists_eq_left',go_sem,hC,hE,hF,hM];repeat' (first | exact Ok.out | with_reducible refine aJ ?_ ?_ | (simp;done))))
   refine dV 2 0 ?_ ?_ (IH (rest,k+1) ⟨g2,hR⟩ (Nat.lt_succ_self _))
   ·(simp only [go_sem,hC,hE,hF,hM,aP bS];try exact bR)
   ·(simp only [go_sem,hC,hE,hF,hM,aP bS];try exact bR)
def Cb (p:Pg):List Sm→Option Sm
 | []=>none
 | v::l=>if v.kind==4 && !(v.rf p)then some v else Cb p l
def lh (c:Int):Option Sm→Int×Int
 | some v=>(c,v.id)
 | none=>(0,0)
def Pg.arity (p:Pg):Int×Int:=if p.scope.1==0 then lh 6 (Cb p p.pre)else(1,0)
theorem Pg.kc.pre {p:Pg} (h:p.kc) : ∀ v∈p.pre,v.oR:=fun v m=>by
 simp only [Pg.pre,List.mem_flatten,List.mem_map]at m
 obtain⟨l,⟨f,hf,rfl⟩,m⟩:=m
 exact h.said hf v m
theorem G5 {p:Pg} (h:p.kc) (s:St):aD Tryz.prog o5 [.agg (cB p)] s (.agg [.int .i64 p.arity.1, .int .i64 p.arity.2]) s:=by
 refine aD.pure ?_ (by simp [D.bT,D.ok,jC]) rfl s
 obtain⟨sj,sB,xU⟩:=h.procs
 have si:=fun s=>tM h s
 have dS:=fun s=>BT (p:=p) (by omega) s
 have hL:=(pE p).1
 have hll:=pF p
 generalize hR:p.arity=R
 simp only [Pg.arity]at hR
 unfold S0
 have b0:(p.scope.1 != 0) = !(p.scope.1==0):=rfl
 rcases Bool.eq_false_or_eq_true (p.scope.1==0)with b1 | b1
 case inr=>
  rw [b1]at b0
  simp only [b1,Bool.false_eq_true,if_false]at hR
  subst hR
  refine aD.go uG rfl fun B Q hB hQ=> ?_
  have⟨hC,hE,hF,hM⟩:=bL
  repeat' (first
 | simp only [go_sem,hC,hE,hF,hM,b0,Bool.not_false]
 | (with_reducible refine CU (si _) ?_)
 | (with_reducible refine aH hQ ?_;simp only [aA,aB,Option.some.injEq,exists_eq_left',go_sem,hC,hE,hF,hM];repeat' (first | exact Ok.out | with_reducible refine aJ ?_ ?_ | (simp;done))))
 rw [b1]at b0
 simp only [b1,if_true, ← hL]at hR
 refine aD.go uG rfl fun B Q hB hQ=> ?_
 have⟨hC,hE,hF,hM⟩:=bL
 repeat' (first
 | simp only [go_sem,hC,hE,hF,hM,b0,Bool.not_true,qS]
 | (with_reducible refine CU (si _) ?_)
 | (with_reducible refine CU (dS _) ?_)
 | (with_reducible refine aH hQ ?_;simp only [aA,aB,Option.some.injEq,exists_eq_left',go_sem,hC,hE,hF,hM];repeat' (first | exact Ok.out | with_reducible refine aJ ?_ ?_ | (simp;done))))
 refine dc 2 0 (bw.ind (ι:=List Im×Nat) (fun i=>p.eL.L.drop i.2=i.1∧lh 6 (Cb p (i.1.map Im.s))=R) (fun i=>i.1.length)
  (fun i=> [(1, .ptr 0 0),(2, .ptr 1 0),(14, .slice .shared 17 (p.eL.L.map eC)),(15, .int .i64 (p.eL.L.length:Int)),(16, .int .i64 (i.2:Int))]) (fun i=>⟨[cB p,[.int .i64 0, .int .i64 0]],[]⟩) ?_ (p.eL.L,0) ⟨rfl,hR⟩)
 clear hR
 rintro⟨rest,k⟩ ⟨h1,hR⟩ IH
 dsimp only at h1 hR
 cases rest with
 | nil=>
  have hC:=drop_nil h1
  simp only [List.map_nil,Cb,lh]at hR
  subst hR
  repeat' (first
 | simp only [go_sem,hC,hE,hF,hM]
 | (with_reducible refine aH hQ ?_;simp only [aA,aB,Option.some.injEq,exists_eq_left',go_sem,hC,hE,hF,hM];repeat' (first | exact Ok.out | with_reducible refine aJ ?_ ?_ | (simp;done))))
 | cons a rest=>
  obtain⟨hE,g2,hC,g4⟩:=drop_cons h1
  have bS:k<4611686018427387904:=by omega
  have Eb:a.s∈p.pre:=by rw [← hL];exact List.mem_map_of_mem (List.mem_of_getElem? hE)
  have hf1:=fun s=>aan h (h.pre _ Eb) s
  simp only [List.map_cons,Cb]at hR
  rcases Bool.eq_false_or_eq_true (a.s.kind==4)with c1 | c1
  ·rcases Bool.eq_false_or_eq_true (a.s.rf p)with c2 | c2
   ·simp only [c1,c2,Bool.not_true,Bool.and_false,Bool.false_eq_true,if_false]at hR
    repeat' (first
 | simp only [go_sem,hC,hE,hF,hM,c1,c2]
 | (with_reducible refine CU (hf1 _) ?_)
 | (with_reducible refine aH hQ ?_;simp only [aA,aB,Option.some.injEq,exists_eq_left',go_sem,hC,hE,hF,hM];repeat' (first | exact Ok.out | with_reducible refine aJ ?_ ?_ | (simp;done))))
    refine dV 2 0 ?_ ?_ (IH (rest,k+1) ⟨g2,hR⟩ (Nat.lt_succ_self _))
    ·(simp only [go_sem,hC,hE,hF,hM,aP bS];try exact bR)
    ·(simp only [go_sem,hC,hE,hF,hM,aP bS];try exact bR)
   ·simp only [c1,c2,Bool.not_false,Bool.and_true,if_true,lh]at hR
    subst hR
    repeat' (first
 | simp only [go_sem,hC,hE,hF,hM,c1,c2]
 | (with_reducible refine CU (hf1 _) ?_)
 | (with_reducible refine aH hQ ?_;simp only [aA,aB,Option.some.injEq,exists_eq_left',go_sem,hC,hE,hF,hM];repeat' (first | exact Ok.out | with_reducible refine aJ ?_ ?_ | (simp;done))))
  ·simp only [c1,Bool.false_and,Bool.false_eq_true,if_false]at hR
   repeat' (first
 | simp only [go_sem,hC,hE,hF,hM,c1]
 | (with_reducible refine CU (hf1 _) ?_)
 | (with_reducible refine aH hQ ?_;simp only [aA,aB,Option.some.injEq,exists_eq_left',go_sem,hC,hE,hF,hM];repeat' (first | exact Ok.out | with_reducible refine aJ ?_ ?_ | (simp;done))))
   refine dV 2 0 ?_ ?_ (IH (rest,k+1) ⟨g2,hR⟩ (Nat.lt_succ_self _))
   ·(simp only [go_sem,hC,hE,hF,hM,aP bS];try exact bR)
   ·(simp only [go_sem,hC,hE,hF,hM,aP bS];try exact bR)
end Go.Abs

/-! Ar3 -/

namespace Go.Abs
set_option maxRecDepth 8000
open Go.Proofs
theorem Ed {p:Pg} (h:(p.scope.1==0)=true):p.may=true:=by
 unfold Pg.scope at h
 split at h
 ·assumption
 ·cases h
end Go.Abs

/-! Srt1 -/

namespace Go.Abs
set_option maxRecDepth 8000
open Go.Proofs
def me (out:List ay):List ay→ay→Bool→ay×Bool
 | [],c,a=>(c,a)
 | s::l,c,a=>if !(eH out s) && (!a || bytesLess s c)then me out l s true else me out l c a
def Px (l out:List ay):List ay:=if(me out l [] false).2 then out++ [(me out l [] false).1]else out
def og (l:List ay):Nat→List ay→List ay
 | 0,out=>out
 | n+1,out=>og l n (Px l out)
def jd (l:List ay):List ay:=og l l.length []
end Go.Abs

/-! Shelf -/

namespace Go.Proofs
open Go.Shelf
def Tryz.IA:Go.Shelf.Ren:=⟨fun | 190=>126 | 125=>169 | 258=>168 | 128=>202 | 129=>203 | 302=>193 | 303=>194 | 304=>195 | 305=>196 | 306=>197 | 307=>198 | 308=>199 | 309=>200 | 310=>201 | 333=>220 | 329=>221 | 330=>222 | 334=>223 | 335=>224 | 336=>225 | 344=>238 | n=>n,fun | 31=>22 | 9=>9 | 3=>3 | 46=>177 | 0=>0 | 51=>194 | 53=>196 | 4=>4 | 183=>187 | 182=>186 | 131=>131 | 5=>5 | 218=>209 | 222=>213 | 228=>221 | 229=>218 | n=>n,fun | n=>n⟩
theorem Tryz.Jk:Go.Proofs.Lays.n190 Tryz.prog Tryz.IA:= {
 mixed:=by kernel_rfl
 f125:=Tryz.func169.trans (congrArg some (by kernel_rfl))
 f128:=Tryz.func202.trans (congrArg some (by kernel_rfl))
 f129:=Tryz.func203.trans (congrArg some (by kernel_rfl))
 f190:=Tryz.func126.trans (congrArg some (by kernel_rfl))
 f258:=Tryz.func168.trans (congrArg some (by kernel_rfl))
 f302:=Tryz.func193.trans (congrArg some (by kernel_rfl))
 f303:=Tryz.func194.trans (congrArg some (by kernel_rfl))
 f304:=Tryz.func195.trans (congrArg some (by kernel_rfl))
 f305:=Tryz.func196.trans (congrArg some (by kernel_rfl))
 f306:=Tryz.func197.trans (congrArg some (by kernel_rfl))
 f307:=Tryz.func198.trans (congrArg some (by kernel_rfl))
 f308:=Tryz.func199.trans (congrArg some (by kernel_rfl))
 f309:=Tryz.func200.trans (congrArg some (by kernel_rfl))
 f310:=Tryz.func201.trans (congrArg some (by kernel_rfl))
 f329:=Tryz.func221.trans (congrArg some (by kernel_rfl))
 f330:=Tryz.func222.trans (congrArg some (by kernel_rfl))
 f333:=Tryz.func220.trans (congrArg some (by kernel_rfl))
 f334:=Tryz.func223.trans (congrArg some (by kernel_rfl))
 f335:=Tryz.func224.trans (congrArg some (by kernel_rfl))
 f336:=Tryz.func225.trans (congrArg some (by kernel_rfl))
 f344:=Tryz.func238.trans (congrArg some (by kernel_rfl))
 t0:=Tryz.underlying0
 a0:=Tryz.isAgg0
 z0:=Tryz.sizeOf0
 v0:=Tryz.zeroValue0
 t3:=Tryz.underlying3
 a3:=Tryz.isAgg3
 z3:=Tryz.sizeOf3
 v3:=Tryz.zeroValue3
 t4:=Tryz.underlying4
 a4:=Tryz.isAgg4
 z4:=Tryz.sizeOf4
 v4:=Tryz.zeroValue4
 t5:=Tryz.underlying5
 a5:=Tryz.isAgg5
 z5:=Tryz.sizeOf5
 v5:=Tryz.zeroValue5
 t9:=Tryz.underlying9
 a9:=Tryz.isAgg9
 z9:=Tryz.sizeOf9
 v9:=Tryz.zeroValue9
 t31:=Tryz.underlying22
 a31:=Tryz.isAgg22
 z31:=Tryz.sizeOf22
 v31:=Tryz.zeroValue22
 t46:=Tryz.underlying177
 a46:=Tryz.isAgg177
 z46:=Tryz.sizeOf177
 v46:=Tryz.zeroValue177
 t51:=Tryz.underlying194
 a51:=Tryz.isAgg194
 z51:=Tryz.sizeOf194
 v51:=Tryz.zeroValue194
 t53:=Tryz.underlying196
 a53:=Tryz.isAgg196
 z53:=Tryz.sizeOf196
 v53:=Tryz.zeroValue196
 t131:=Tryz.underlying131
 a131:=Tryz.isAgg131
 z131:=Tryz.sizeOf131
 v131:=Tryz.zeroValue131
 t182:=Tryz.underlying186
 a182:=Tryz.isAgg186
 z182:=Tryz.sizeOf186
 v182:=Tryz.zeroValue186
 t183:=Tryz.underlying187
 a183:=Tryz.isAgg187
 z183:=Tryz.sizeOf187
 v183:=Tryz.zeroValue187
 t218:=Tryz.underlying209
 a218:=Tryz.isAgg209
 z218:=Tryz.sizeOf209
 v218:=Tryz.zeroValue209
 t222:=Tryz.underlying213
 a222:=Tryz.isAgg213
 z222:=Tryz.sizeOf213
 v222:=Tryz.zeroValue213
 t228:=Tryz.underlying221
 a228:=Tryz.isAgg221
 z228:=Tryz.sizeOf221
 v228:=Tryz.zeroValue221
 t229:=Tryz.underlying218
 a229:=Tryz.isAgg218
 z229:=Tryz.sizeOf218
 v229:=Tryz.zeroValue218}
open Go.Sort Go.RowKit in
theorem Tryz.slices_Sort_string (y6 off cap:Nat) (ss:List (List UInt8)) (w:World) (hH:Holds encStr w y6 off ss.toArray) (alZ:y6<w.heap.size) (ep:ss.length<4611686018427387904) :
 Calls Tryz.prog 126 #[.slice (some ⟨y6,off,none⟩) ss.length cap] w fun e w'=>
  e = .returned (.tuple #[])∧∃ n os,w'=grow (putRow encStr (Sort.ahead w n) y6 off (ss.mergeSort fun x y=>decide (x≤y)).toArray) os:=Any.slices_Sort_string Tryz.Jk y6 off cap ss w hH alZ ep
def Tryz.IB:Go.Shelf.Ren:=⟨fun | 194=>127 | n=>n,fun | 31=>22 | 9=>9 | 3=>3 | 4=>4 | 0=>0 | n=>n,fun | n=>n⟩
theorem Tryz.Jl:Go.Proofs.Lays.n194 Tryz.prog Tryz.IB:= {
 mixed:=by kernel_rfl
 f194:=Tryz.func127.trans (congrArg some (by kernel_rfl))
 t0:=Tryz.underlying0
 a0:=Tryz.isAgg0
 z0:=Tryz.sizeOf0
 v0:=Tryz.zeroValue0
 t3:=Tryz.underlying3
 a3:=Tryz.isAgg3
 z3:=Tryz.sizeOf3
 v3:=Tryz.zeroValue3
 t4:=Tryz.underlying4
 a4:=Tryz.isAgg4
 z4:=Tryz.sizeOf4
 v4:=Tryz.zeroValue4
 t9:=Tryz.underlying9
 a9:=Tryz.isAgg9
 z9:=Tryz.sizeOf9
 v9:=Tryz.zeroValue9
 t31:=Tryz.underlying22
 a31:=Tryz.isAgg22
 z31:=Tryz.sizeOf22
 v31:=Tryz.zeroValue22}
open Go.RowKit Go.Lib Go.Sort in
theorem Tryz.slices_Compact_string (y6 off cap:Nat) (zs:List (List UInt8)) (w:World) (hH:Holds encStr w y6 off zs.toArray) (ep:zs.length≤9223372036854775807) (rZ:zs.length≤cap) :
 Calls Tryz.prog 127 #[.slice (some ⟨y6,off,none⟩) zs.length cap] w fun e w'=>e = .returned (.slice (some ⟨y6,off,none⟩) (Lib.compact zs).length cap)∧∃ q,w'=putRow encStr (Sort.ahead w q) y6 off (Lib.compact zs++List.replicate (zs.length - (Lib.compact zs).length) []).toArray:=Any.slices_Compact_string Tryz.Jl y6 off cap zs w hH ep rZ
open Go.RowKit Go.Lib Go.Sort in
theorem Tryz.slices_Compact_string_empty (a:Option Addr) (cap:Nat) (w:World) :
 Calls Tryz.prog 127 #[.slice a 0 cap] w fun e w'=>e = .returned (.slice a 0 cap)∧w'=w:=Any.slices_Compact_string_empty Tryz.Jl a cap w
open Go.RowKit Go.Sort in
theorem Tryz.slices_Sort_string_none (p:Option Addr) (cap:Nat) (w:World) :
 Calls Tryz.prog 126 #[.slice p 0 cap] w fun e w'=>e = .returned (.tuple #[])∧w'=w:=Any.slices_Sort_string_none Tryz.Jk p cap w
end Go.Proofs

/-! SortR -/

namespace Go.Abs
open Go.Proofs
section
variable {P:Program} {B:eU} {nt:Nat}
theorem W5 {x:Operand} {t:Nat} (h:cX x=some (.s t)):x = .tmp t:=by
 unfold cX at h
 split at h
 ·cases h;rfl
 ·obtain⟨d,_,h⟩:=map_some h;cases h
 ·cases h
 ·cases h
theorem Mw {ops:Array Oper} {o:Oper} {g g':Option (Nat×Bool)} {dst:Option Nat} {f:Nat} {xs:List X} (h:qW P ops o g=some (.call dst g' f xs)) :
 g'=g∧∃ args mP,o.op = .call ⟨.value (.func f),args,mP⟩∧enters P f=true∧vM args.toList=some xs:=by
 unfold qW at h
 split at h
 ·rename_i f' args mP kO
  split at h
  ·rename_i he
   obtain⟨xs',h1,h2⟩:=map_some h
   cases h2
   exact⟨rfl,args,mP,kO,he,h1⟩
  ·cases h
 ·obtain⟨_,_,h⟩:=map_some h;cases h
 ·split at h
  ·cases h
  ·split at h <;> cases h
theorem Py {ops:Array Oper} {o:Oper} {tmps:Array Value} (hg:s7 ops o.guard=some none):Region.wanted o (yielded ops tmps)=true:=by
 have:o.guard=none:=by
  cases DE:o.guard with
  | none=>rfl
  | some p=>
   obtain⟨j,b⟩:=p
   rw [DE]at hg
   unfold s7 at hg
   simp only at hg
   split at hg <;> cases hg
 simp [Region.wanted,this]
theorem Sem.aaq {a k b f:Nat} {is:List AI} {Q:Exit→Tm→St→Prop} {tm:Tm} {s:St}
 (adU : ∀ act w,Holds B nt (tm.put (some a) (tm.get k)) s act w→Calls P f #[act.tmps.getD a Go.undef] w fun e w'=>∃ v,e = .returned v∧∃ bK s',Holds B nt bK s' (act.put (some b) v) w'∧hS P is (Q .normal) bK s') :
 Sem P B nt (.run (.op (some a) none (.mv (.s k)):: .call (some b) none f [.s a]::is)) Q tm s:=by
 intro c hc act w hh
 obtain⟨id,ops,rfl,hi⟩:=ku hc
 refine wp_region ?_
 have key : ∀ (l:List Nat) (ol:List Oper),l.map (ops[·]?)=ol.map some→pO P nt ops ol=some (.op (some a) none (.mv (.s k)):: .call (some b) none f [.s a]::is)→wpOps P ops (ox B nt Q) l act w:=by
  intro l ol hl vn
  match ol,l,hl with
  | [],_,_=>simp [pO]at vn
  | o0::ol,[],hl=>simp at hl
  | o0::ol,j0::l,hl=>
   simp only [List.map_cons,List.cons.injEq]at hl
   obtain⟨hj0,hl⟩:=hl
   unfold pO at vn
   split at vn
   ·rename_i i0 is0 h1 h2
    cases vn
    match ol,l,hl,h2 with
    | [],_,_,h2=>simp [pO]at h2
    | o1::ol,[],hl,_=>simp at hl
    | o1::ol,j1::l,hl,h2=>
     simp only [List.map_cons,List.cons.injEq]at hl
     obtain⟨hj1,hl⟩:=hl
     unfold pO at h2
     split at h2
     ·rename_i i1 is1 h3 h4
      cases h2
      obtain⟨M,e,r,ht,hn,hd⟩:=hh
      have VC:=rD h1
      have hd1:=rD h3
      simp only [AI.dst]at VC hd1
      refine vm (K':=fun bK s'=>bK=tm.put (some a) (tm.get k)∧s'=s) hj0 h1 r (B.laid.ext e) ht (by simp only [hS,guarded,aW,X.ev,and_self]) (fun d v s1 w1 M1 hk e1 r1 hv=> ?_)
      obtain⟨k6,rfl⟩:=hk
      have hH:=Holds.put e ht hn hd (vQ h1) e1 r1 hv
      simp only [AI.dst]at k6
      rw [← VC]at hH ⊢
      rw [k6]at hH
      obtain⟨g,hg,_,hb⟩:=yE h3
      obtain⟨rfl,args,mP,kO,wV,nq⟩:=Mw hb
      simp only [wpOps,hj1,Py hg,if_true]
      left
      have SF:args.map (act.put (some a) v).eval = #[(act.put (some a) v).tmps.getD a Go.undef]:=by
       have:args.toList = [.tmp a]:=by
        match hA:args.toList with
        | []=>rw [hA]at nq;simp [vM]at nq
        | [x]=>
         rw [hA]at nq
         simp only [vM]at nq
         split at nq
         ·rename_i x' r' hx hr
          cases nq
          rw [W5 hx]
         ·cases nq
        | x::y::z=>
         rw [hA]at nq
         simp only [vM]at nq
         split at nq
         ·rename_i x' r' hx hr
          cases nq
          split at hr
          ·cases hr
          ·cases hr
         ·cases nq
       have:args = #[.tmp a]:=by rw [← Array.toArray_toList (xs:=args),this]
       rw [this]
       simp only [List.map_toArray,List.map_cons,List.map_nil]
       rfl
      have hex:(execOp (act.put (some a) v).eval o1).run P w1 = .ok (.enter f #[(act.put (some a) v).tmps.getD a Go.undef]) w1:=by
       obtain⟨dst,op,type,pos,after,guard⟩:=o1
       simp only at kO
       subst kO
       rw [← SF]
       exact vh (act.put (some a) v).eval dst f args mP type pos after guard rfl wV w1
      unfold Oper.wp
      rw [hex,Oper.upon_enter]
      refine(adU _ _ hH).mono ?_
      rintro en w' ⟨v',rfl,bK,s',hH',hvc⟩
      rw [← hd1]
      exact yw (Q:=Q) l ol _ hl h4 bK s' _ w' hvc hH'
     ·cases h2
   ·cases vn
 exact key _ _ (yx ops) hi
theorem Ee (hB:B.s = ⟨[],[]⟩) {tm:Tm} {s:St} {act:Act} {w:World} (h:Holds B nt tm s act w) {t:Nat} {l:List ay} (ht:s.aC[t]? = some (some l.length)) {k0:Nat} (hk0:tm.get k0 = .slice (.tok t) 1 (l.map encStr)) :
 (l = []∧∀ k,tm.get k = .slice (.tok t) 1 (l.map encStr)→(act.tmps.getD k Go.undef = .slice none 0 0∨∃ b q,act.tmps.getD k Go.undef = .slice (some ⟨b,q,none⟩) 0 0))∨
 ∃ (b cap:Nat) (vs:Array Value) (T:TypeId),(∀ k,tm.get k = .slice (.tok t) 1 (l.map encStr)→act.tmps.getD k Go.undef = .slice (some ⟨b,0,none⟩) l.length cap)∧l.length≤cap∧w.heap[b]? = some (.cells vs T (0,0))∧vs.size=cap∧B.w.heap.size≤b∧
  ∀ j (hj:j<l.length),vs[j]? = some (.string ⟨⟨l[j]⟩⟩):=by
 obtain⟨M,e,r,hr,_,_⟩:=h
 rcases r.tok t _ ht with ⟨h3,h4⟩ | ⟨b,cap,z,vs,T,h3,h4,h5,h6,h7⟩
 ·have hl:l = []:=List.eq_nil_of_length_eq_zero h4
  subst hl
  refine .inl ⟨rfl,fun k hk=> ?_⟩
  have hv:=hr k
  rw [hk]at hv
  generalize act.tmps.getD k Go.undef=v at hv
  cases hv with
  | jf _ _ cap hc oq=>subst hc;exact .inl rfl
  | slice _ _ _ b q cap hl hs h1 h2 oq=>
   rcases(oq.2 _ ht).2 rfl with ⟨_,h0,_⟩ | ⟨b',_,jL⟩
   ·subst h0;exact .inr ⟨b,q,rfl⟩
   ·rw [h3]at jL;cases jL
 ·right
  have each : ∀ k,tm.get k = .slice (.tok t) 1 (l.map encStr)→z=1∧act.tmps.getD k Go.undef = .slice (some ⟨b,0,none⟩) l.length cap∧l.length≤cap∧∀ j (hj:j<l.length),∃ u,M.G b j=some u∧RD M s (.str l[j]) u:=by
   intro k hk
   have hv:=hr k
   rw [hk]at hv
   generalize act.tmps.getD k Go.undef=v at hv
   generalize kG:l.map encStr=rows at hv
   cases hv with
   | jf _ _ cap hc oq=>
    have hl:l = []:=by cases l <;> simp at kG;rfl
    subst hl
    rcases(oq.2 _ ht).2 rfl with ⟨h0,_⟩ | ⟨b',h0,_⟩
    ·rw [h3]at h0;cases h0
    ·cases h0
   | slice _ _ _ b2 q aun hl hs h1 h2 oq=>
    subst kG
    rw [List.length_map]at hl oq
    rcases(oq.2 _ ht).2 rfl with ⟨h0,_⟩ | ⟨b',hb,jL⟩
    ·rw [h3]at h0;cases h0
    ·cases hb
     rw [h3]at jL
     cases jL
     refine⟨rfl,by rw [List.length_map],hl,fun j hj=> ?_⟩
     have e1:(l.map encStr)[j]? = some [.str l[j]]:=by rw [List.getElem?_map,List.getElem?_eq_getElem hj];rfl
     obtain⟨u,hu⟩:=h1 j _ 0 _ e1 rfl
     refine⟨u,by simpa using hu,h2 j _ 0 _ u e1 rfl hu⟩
  obtain⟨rfl,_,rZ,k7⟩:=each k0 hk0
  have dS:B.w.heap.size≤b:=by
   rcases e.pM t b cap 1 ⟨_,ht⟩ h3 with ⟨⟨n,hn⟩,_⟩ | h
   ·rw [hB]at hn;simp at hn
   ·exact h
  refine⟨b,cap,vs,T,fun k hk=>(each k hk).2.1,rZ,h4,by simpa [zs]using h5,dS,fun j hj=> ?_⟩
  obtain⟨u,hu,oG⟩:=k7 j hj
  have:=(r.comm _ _ _ hu).1
  rw [jY h4,oG.kh]at this
  exact this
theorem G6 (hB:B.s = ⟨[],[]⟩) {tm:Tm} {s:St} {act sg:Act} {w w':World} (h:Holds B nt tm s act w) {b cap:Nat} {vs:Array Value} {T:TypeId} (ep:vs.size=cap) (uJ:B.w.heap.size≤b)
 (kZ : ∀ q,q<B.w.heap.size→w'.heap[q]? = w.heap[q]?) (dZ:w'.heap[b]? = some (.cells vs T (0,0))) (ez:w.heap.size≤w'.heap.size) (DM:w'.os=w.os) (Bo:w'.tape=w.tape) (Ka:w'.output=w.output)
 {l:List ay} (hl:l.length≤cap) (k7 : ∀ j (hj:j<l.length),vs[j]? = some (.string ⟨⟨l[j]⟩⟩)) {k:Nat} (Mx:sg.tmps.getD k Go.undef = .slice (some ⟨b,0,none⟩) l.length cap) (hn:sg.tmps.size=nt) (hd:sg.defers = []) :
 Holds B nt [(k, .slice (.tok 0) 1 (l.map encStr))] ⟨[],[some l.length]⟩ sg w':=by
 obtain⟨M,e,r,hr,_,_⟩:=h
 let M':Map:=⟨fun q o=>if q=b then(if o<l.length then(l[o]?).map fun x=>Value.string ⟨⟨x⟩⟩else none)else B.M.G q o,B.M.loc,fun _=>some (b,cap,1)⟩
 have hGb : ∀ q o v,B.M.G q o=some v→q<B.w.heap.size∧w'.cell? ⟨q,o,none⟩=some v∧v.oneCell'=true:=by
  intro q o v hq
  obtain⟨h1,h2⟩:=r.comm q o v (e.le.G q o v hq)
  have hC:=B.old q o v hq
  refine⟨hC, ?_,h2⟩
  rw [← h1]
  simp [World.cell?,kZ q hC]
 have zj : ∀ j (hj:j<l.length),w'.cell? ⟨b,j,none⟩=some (.string ⟨⟨l[j]⟩⟩):=fun j hj=>by rw [jY dZ];exact k7 j hj
 have hE : ∀ (j:Nat) v,(if j<l.length then(l[j]?).map fun x=>Value.string ⟨⟨x⟩⟩else none)=some v→∃ hj:j<l.length,v = .string ⟨⟨l[j]⟩⟩:=by
  intro j v hv
  split at hv
  ·rename_i hj
   rw [List.getElem?_eq_getElem hj]at hv
   exact⟨hj,by simpa using hv.symm⟩
  ·cases hv
 refine⟨M',⟨⟨fun q o v hq=> ?_,by simp [hB],fun o ho=>rfl,by rw [hB];exact Nat.zero_le _,fun t n' ht _=>by rw [hB]at ht;exact absurd ht (Nat.not_lt_zero _)⟩,fun q hq _ _=> ?_,fun o _ h2=>absurd h2 (Nat.not_lt_zero _),fun t q c z _ hb=> ?_,fun q o fi=> ?_,Nat.le_trans e.size ez,DM.trans e.os,Bo.trans e.tape,Ka.trans e.output⟩,
  ⟨fun q o v hq=> ?_,fun o ds ho=>by simp at ho,fun o ho=>absurd ho (Nat.not_lt_zero _),fun o o' ho=>absurd ho (Nat.not_lt_zero _),fun t n ht=> ?_,fun t q c z o _ _ ho=>absurd ho (Nat.not_lt_zero _),fun t t' q c z c' z' sy gQ _ _=> ?_⟩,fun u=> ?_,hn,hd⟩
 ·show(if q=b then _ else B.M.G q o)=some v
  rw [if_neg (by have:=(hGb q o v hq).1;omega)]
  exact hq
 ·rw [kZ q hq]
  exact e.kept q hq (fun o ho=>by rw [hB]at ho;exact absurd ho (Nat.not_lt_zero _)) (fun t c z gQ=>by rw [hB]at gQ;obtain⟨n,wx⟩:=gQ;simp at wx)
 ·cases hb;exact .inr uJ
 ·by_cases hq:q=b
  ·subst hq;exact .inl uJ
  ·exact absurd (show(if q=b then _ else B.M.G q o)=B.M.G q o from if_neg hq) fi
 ·have qA:(if q=b then(if o<l.length then(l[o]?).map fun x=>Value.string ⟨⟨x⟩⟩else none)else B.M.G q o)=some v:=hq
  by_cases hqb:q=b
  ·rw [if_pos hqb]at qA
   obtain⟨hj,rfl⟩:=hE o v qA
   rw [hqb]
   exact⟨zj o hj,rfl⟩
  ·rw [if_neg hqb]at qA
   exact(hGb q o v qA).2
 ·match t with
  | 0=>
   simp at ht
   subst ht
   refine .inr ⟨b,cap,1,vs,T,rfl,dZ,by simp [zs,ep],hl,fun off ho=> ?_,fun h=>by cases h⟩
   show(if b=b then(if off<l.length then _ else none)else B.M.G b off)=none
   rw [if_pos rfl,if_neg (by simp [zs]at ho;omega)]
  | t+1=>simp at ht
 ·obtain⟨n1,h1⟩:=sy
  obtain⟨n2,h2⟩:=gQ
  have a1:=(List.getElem?_eq_some_iff.1 h1).1
  have a2:=(List.getElem?_eq_some_iff.1 h2).1
  simp at a1 a2
  omega
 ·simp only [Tm.get]
  split
  ·rename_i hku
   subst hku
   rw [Mx]
   have:=RD.slice (M:=M') (s:=⟨[],[some l.length]⟩) (.tok 0) 1 (l.map encStr) b 0 cap (by simpa using hl) (fun row hr=>by
    obtain⟨x,_,rfl⟩:=List.mem_map.1 hr;rfl) (fun i row j d e1 e2=> ?_) (fun i row j d u e1 e2 eu=> ?_) ⟨by simp,fun n wx=>by
    simp at wx
    subst wx
    exact⟨by simp,fun _=> .inr ⟨b,rfl,rfl⟩⟩⟩
   ·simpa using this
   ·rw [List.getElem?_map]at e1
    cases xO:l[i]? with
    | none=>rw [xO]at e1;cases e1
    | some x=>
     have pA:=(List.getElem?_eq_some_iff.1 xO).1
     rw [xO]at e1
     cases e1
     have hj:j=0:=by cases j with | zero=>rfl | succ j=>simp [encStr]at e2
     subst hj
     refine⟨.string ⟨⟨x⟩⟩, ?_⟩
     show(if b=b then(if 0+(i*1+0)<l.length then _ else none)else _)=_
     rw [if_pos rfl,if_pos (by omega)]
     simp [xO]
   ·rw [List.getElem?_map]at e1
    cases xO:l[i]? with
    | none=>rw [xO]at e1;cases e1
    | some x=>
     have pA:=(List.getElem?_eq_some_iff.1 xO).1
     rw [xO]at e1
     cases e1
     have hj:j=0:=by cases j with | zero=>rfl | succ j=>simp [encStr]at e2
     subst hj
     have I8:(if b=b then(if 0+(i*1+0)<l.length then(l[0+(i*1+0)]?).map fun x=>Value.string ⟨⟨x⟩⟩else none)else B.M.G b (0+(i*1+0)))=some u:=eu
     rw [if_pos rfl,if_pos (by omega)]at I8
     simp [xO]at I8
     subst I8
     simp [encStr]at e2
     subst e2
     exact .str x
  ·exact .junk _
theorem Jm (hB:B.s = ⟨[],[]⟩) {tm:Tm} {s:St} {act sg:Act} {w:World} (h:Holds B nt tm s act w) {k:Nat} (Mx:sg.tmps.getD k Go.undef = .slice none 0 0∨∃ b q,sg.tmps.getD k Go.undef = .slice (some ⟨b,q,none⟩) 0 0) (hn:sg.tmps.size=nt) (hd:sg.defers = []) :
 Holds B nt [(k, .slice (.tok 0) 1 (([] : List ay).map encStr))] ⟨[],[some 0]⟩ sg w:=by
 obtain⟨M,e,r,hr,_,_⟩:=h
 let M':Map:=⟨B.M.G,B.M.loc,fun _=>none⟩
 refine⟨M',⟨⟨fun q o v hq=>hq,by simp [hB],fun o ho=>rfl,by rw [hB];exact Nat.zero_le _,fun t n' ht _=>by rw [hB]at ht;exact absurd ht (Nat.not_lt_zero _)⟩,fun q hq _ _=> ?_,fun o _ h2=>absurd h2 (Nat.not_lt_zero _),fun t q c z _ hb=>(by cases hb),fun q o fi=>absurd rfl fi,e.size,e.os,e.tape,e.output⟩,
  ⟨fun q o v hq=>r.comm q o v (e.le.G q o v hq),fun o ds ho=>by simp at ho,fun o ho=>absurd ho (Nat.not_lt_zero _),fun o o' ho=>absurd ho (Nat.not_lt_zero _),fun t n ht=> ?_,fun t q c z o _ _ ho=>absurd ho (Nat.not_lt_zero _),fun t t' q c z c' z' sy gQ h1 _=>by cases h1⟩,fun u=> ?_,hn,hd⟩
 ·exact e.kept q hq (fun o ho=>by rw [hB]at ho;exact absurd ho (Nat.not_lt_zero _)) (fun t c z gQ=>by rw [hB]at gQ;obtain⟨n,wx⟩:=gQ;simp at wx)
 ·match t with
  | 0=>simp at ht;subst ht;exact .inl ⟨rfl,rfl⟩
  | t+1=>simp at ht
 ·simp only [Tm.get]
  split
  ·rename_i hku
   subst hku
   have oq : ∀ base,gW M' ⟨[],[some 0]⟩ (.tok 0) 1 0 base 0:=fun base=>⟨by simp,fun n wx=>by
    simp at wx
    subst wx
    exact⟨Nat.le_refl _,fun _=> .inl ⟨rfl,rfl,fun h=>by cases h⟩⟩⟩
   rcases Mx with h | ⟨b,q,h⟩
   ·rw [h];exact .jf _ _ 0 rfl (oq none)
   ·rw [h];exact .slice (.tok 0) 1 [] b q 0 (Nat.le_refl _) (by simp) (by simp) (by simp) (oq _)
  ·exact .junk _
theorem G7 {α:Type} [Inhabited α] (enc:α→Value) (d:Array α) (c:Array Value) (j:Nat):(Sort.putCells enc 0 d c)[j]? = if j<d.size then(c[j]?).map fun _=>enc d[j]! else c[j]? :=by
 simp only [Sort.putCells,Array.getElem?_mapIdx]
 cases h:c[j]? with
 | none=>simp
 | some x=>by_cases hj:j<d.size <;> simp [hj]
theorem Ef {w:World} {b n cap:Nat} {vs:Array Value} {T:TypeId} (dZ:w.heap[b]? = some (.cells vs T (0,0))) (ep:vs.size=cap) (l:List ay) (hl:l.length≤cap) (os:Array Obj) :
 (∀ q,q≠b→q<w.heap.size→(Sort.grow (Sort.putRow Go.Proofs.encStr (Sort.ahead w n) b 0 l.toArray) os).heap[q]? = w.heap[q]?)∧
 (Sort.grow (Sort.putRow Go.Proofs.encStr (Sort.ahead w n) b 0 l.toArray) os).heap[b]? = some (.cells (Sort.putCells Go.Proofs.encStr 0 l.toArray vs) T (0,0))∧w.heap.size≤(Sort.grow (Sort.putRow Go.Proofs.encStr (Sort.ahead w n) b 0 l.toArray) os).heap.size∧
 (Sort.putCells Go.Proofs.encStr 0 l.toArray vs).size=cap∧∀ j (hj:j<l.length),(Sort.putCells Go.Proofs.encStr 0 l.toArray vs)[j]? = some (.string ⟨⟨l[j]⟩⟩):=by
 have hb:b<w.heap.size:=(Array.getElem?_eq_some_iff.1 dZ).1
 refine⟨fun q hq hC=> ?_, ?_, ?_, ?_,fun j hj=> ?_⟩
 ·simp only [Sort.grow,Sort.putRow,Sort.mapBlock,Sort.ahead]
  rw [Array.getElem?_append_left (by simpa using hC),Array.getElem?_modify]
  simp [Ne.symm hq]
 ·simp only [Sort.grow,Sort.putRow,Sort.mapBlock,Sort.ahead]
  rw [Array.getElem?_append_left (by simpa using hb),Array.getElem?_modify]
  simp [dZ,Sort.onCells]
 ·simp [Sort.grow,Sort.putRow,Sort.mapBlock,Sort.ahead]
 ·simp [Sort.putCells,ep]
 ·rw [G7]
  have h1:j<l.toArray.size:=by simpa using hj
  have h2:vs[j]? = some vs[j]:=Array.getElem?_eq_getElem (by omega)
  rw [if_pos h1,h2]
  simp [hj]
def lj (l:List ay):List ay:=l.mergeSort fun x y=>decide (x≤y)
theorem G8 {act:Act} {b:Nat} {v:Value} {u:Nat} (h:u≠b):(act.put (some b) v).tmps.getD u Go.undef=act.tmps.getD u Go.undef:=by
 simp only [Act.put,Array.getD_eq_getD_getElem?]
 rw [Array.getElem?_setIfInBounds_ne (fun e=>h e.symm)]
theorem Eg {act:Act} {b:Nat} {v:Value} (h:b<act.tmps.size):(act.put (some b) v).tmps.getD b Go.undef=v:=by
 simp only [Act.put,Array.getD_eq_getD_getElem?]
 simp [h]
theorem Sem.sort (hB:B.s = ⟨[],[]⟩) {a k b t:Nat} {l:List ay} {is:List AI} {Q:Exit→Tm→St→Prop} {tm:Tm} {s:St} (hak:a≠k) (hbk:b≠k) (Aa:a≠b)
 (hk:tm.get k = .slice (.tok t) 1 (l.map encStr)) (ht:s.aC[t]? = some (some l.length)) (hl:l.length<4611686018427387904)
 (h:hS Tryz.prog is (Q .normal) [(k, .slice (.tok 0) 1 ((lj l).map encStr))] ⟨[],[some l.length]⟩) :
 Sem Tryz.prog B nt (.run (.op (some a) none (.mv (.s k)):: .call (some b) none iw [.s a]::is)) Q tm s:=by
 refine Sem.aaq fun act w hh=> ?_
 have xJ:(tm.put (some a) (tm.get k)).get k = .slice (.tok t) 1 (l.map encStr):=by rw [Tm.kj,if_neg (by simpa using hak)];exact hk
 have G9:(tm.put (some a) (tm.get k)).get a = .slice (.tok t) 1 (l.map encStr):=by rw [Tm.kj,if_pos rfl];exact hk
 have Cc:(lj l).length=l.length:=List.length_mergeSort l
 have hn:(act.put (some b) (.tuple #[])).tmps.size=nt:=by obtain⟨_,_,_,_,h1,_⟩:=hh;simpa [Act.put]using h1
 have hd:(act.put (some b) (.tuple #[])).defers = []:=by obtain⟨_,_,_,_,_,h1⟩:=hh;simpa [Act.put]using h1
 have ep:(act.tmps).size=nt:=by obtain⟨_,_,_,_,h1,_⟩:=hh;exact h1
 rcases Ee hB hh ht G9 with ⟨rfl,hv⟩ | ⟨b',cap,vs,T,hv,rZ,dZ,rA,uJ,k7⟩
 ·rw [show lj [] = [] by simp [lj]]at h
  have call : ∀ p,act.tmps.getD a Go.undef = .slice p 0 0→Calls Tryz.prog iw #[act.tmps.getD a Go.undef] w fun e w'=>∃ v,e = .returned v∧∃ bK s',Holds B nt bK s' (act.put (some b) v) w'∧hS Tryz.prog is (Q .normal) bK s':=by
   intro p hp
   rw [hp]
   refine(Tryz.slices_Sort_string_none p 0 w).mono ?_
   rintro e w' ⟨rfl,rfl⟩
   refine⟨_,rfl,_,_,Jm hB hh (k:=k) ?_ hn hd,h⟩
   rw [G8 (Ne.symm hbk)]
   exact hv k xJ
  rcases hv a G9 with h1 | ⟨b',q,h1⟩
  ·exact call _ h1
  ·exact call _ h1
 ·rw [hv a G9]
  have hC:b'<w.heap.size:=(Array.getElem?_eq_some_iff.1 dZ).1
  refine(Tryz.slices_Sort_string b' 0 cap l w (fun j hj=> ?_) hC hl).mono ?_
  ·have Pz:j<l.length:=by simpa using hj
   refine⟨?_,by simp [World.frozen?,dZ]⟩
   rw [Nat.zero_add,jY dZ,k7 j Pz]
   simp [Pz]
  ·rintro e w' ⟨rfl,n,os,rfl⟩
   obtain⟨p1,p2,p3,p4,p5⟩:=Ef (n:=n) dZ rA (lj l) (by omega) os
   have hH:=G6 hB hh (sg:=act.put (some b) (.tuple #[])) (l:=lj l) (k:=k) p4 uJ (fun q hq=>p1 q (by omega) (by obtain⟨M,e,_⟩:=hh;exact Nat.lt_of_lt_of_le hq e.size)) p2 p3 rfl rfl rfl (by omega) p5 (by rw [G8 (Ne.symm hbk),hv k xJ,Cc]) hn hd
   rw [Cc]at hH
   exact⟨_,rfl,_,_,hH,h⟩
theorem IC (l:List ay):(Lib.compact l).length≤l.length:=by
 unfold Lib.compact Lib.compactUpTo
 rw [List.length_map]
 exact Nat.le_trans (List.length_filter_le _ _) (by simp)
theorem Sem.compact (hB:B.s = ⟨[],[]⟩) {a k b t:Nat} {l:List ay} {is:List AI} {Q:Exit→Tm→St→Prop} {tm:Tm} {s:St} (xY:b<nt)
 (hk:tm.get k = .slice (.tok t) 1 (l.map encStr)) (ht:s.aC[t]? = some (some l.length)) (hl:l.length<4611686018427387904)
 (h:hS Tryz.prog is (Q .normal) [(b, .slice (.tok 0) 1 ((Lib.compact l).map encStr))] ⟨[],[some (Lib.compact l).length]⟩) :
 Sem Tryz.prog B nt (.run (.op (some a) none (.mv (.s k)):: .call (some b) none iK [.s a]::is)) Q tm s:=by
 refine Sem.aaq fun act w hh=> ?_
 have G9:(tm.put (some a) (tm.get k)).get a = .slice (.tok t) 1 (l.map encStr):=by rw [Tm.kj,if_pos rfl];exact hk
 have ep:(act.tmps).size=nt:=by obtain⟨_,_,_,_,h1,_⟩:=hh;exact h1
 have hn : ∀ v,(act.put (some b) v).tmps.size=nt:=fun v=>by simpa [Act.put]using ep
 have hd : ∀ v,(act.put (some b) v).defers = []:=by obtain⟨_,_,_,_,_,h1⟩:=hh;intro v;simpa [Act.put]using h1
 rcases Ee hB hh ht G9 with ⟨rfl,hv⟩ | ⟨b',cap,vs,T,hv,rZ,dZ,rA,uJ,k7⟩
 ·rw [show Lib.compact ([] : List ay) = []from rfl]at h
  have call : ∀ p,act.tmps.getD a Go.undef = .slice p 0 0→(p=none∨∃ b q,p=some ⟨b,q,none⟩)→Calls Tryz.prog iK #[act.tmps.getD a Go.undef] w fun e w'=>∃ v,e = .returned v∧∃ bK s',Holds B nt bK s' (act.put (some b) v) w'∧hS Tryz.prog is (Q .normal) bK s':=by
   intro p hp hq
   rw [hp]
   refine(Tryz.slices_Compact_string_empty p 0 w).mono ?_
   rintro e w' ⟨rfl,rfl⟩
   refine⟨_,rfl,_,_,Jm hB hh (k:=b) ?_ (hn _) (hd _),h⟩
   rw [Eg (by omega)]
   rcases hq with rfl | ⟨x,y,rfl⟩
   ·exact .inl rfl
   ·exact .inr ⟨x,y,rfl⟩
  rcases hv a G9 with h1 | ⟨b',q,h1⟩
  ·exact call _ h1 (.inl rfl)
  ·exact call _ h1 (.inr ⟨b',q,rfl⟩)
 ·rw [hv a G9]
  have xM:(Lib.compact l).length≤l.length:=IC l
  refine(Tryz.slices_Compact_string b' 0 cap l w (fun j hj=> ?_) (by omega) rZ).mono ?_
  ·have Pz:j<l.length:=by simpa using hj
   refine⟨?_,by simp [World.frozen?,dZ]⟩
   rw [Nat.zero_add,jY dZ,k7 j Pz]
   simp [Pz]
  ·rintro e w' ⟨rfl,q,rfl⟩
   obtain⟨p1,p2,p3,p4,p5⟩:=Ef (n:=q) dZ rA (Lib.compact l++List.replicate (l.length - (Lib.compact l).length) []) (by simp;omega) #[]
   rw [Sort.grow_empty]at p1 p2 p3
   have hH:=G6 hB hh (sg:=act.put (some b) (.slice (some ⟨b',0,none⟩) (Lib.compact l).length cap)) (l:=Lib.compact l) (k:=b) p4 uJ (fun q hq=>p1 q (by omega) (by obtain⟨M,e,_⟩:=hh;exact Nat.lt_of_lt_of_le hq e.size)) p2 p3 rfl rfl rfl (by omega)
    (fun j hj=>by
     have:=p5 j (by simp;omega)
     rw [List.getElem_append_left hj]at this
     exact this) (Eg (by omega)) (hn _) (hd _)
   exact⟨_,rfl,_,_,hH,h⟩
end
end Go.Abs

/-! SrtP -/

namespace Go.Abs
theorem Cd {a b:UInt8} : a<b↔a.toNat<b.toNat:=UInt8.lt_iff_toNat_lt
theorem wC : ∀ a:ay,bytesLess a a=false
 | []=>rfl
 | x::a=>by
  show Go.Op.bytesLess (x::a) (x::a)=false
  have h:=wC a
  have h:Go.Op.bytesLess a a=false:=h
  simp [Go.Op.bytesLess,h]
theorem wD : ∀ a b:ay,bytesLess a b=true∨a=b∨bytesLess b a=true
 | [],[]=> .inr (.inl rfl)
 | [],y::b=> .inl rfl
 | x::a,[]=> .inr (.inr rfl)
 | x::a,y::b=>by
  show Go.Op.bytesLess (x::a) (y::b)=true∨_∨Go.Op.bytesLess (y::b) (x::a)=true
  have h:Go.Op.bytesLess a b=true∨a=b∨Go.Op.bytesLess b a=true:=wD a b
  simp only [Go.Op.bytesLess,Bool.or_eq_true,Bool.and_eq_true,decide_eq_true_eq,beq_iff_eq,List.cons.injEq]
  by_cases e:x=y
  ·subst e
   rcases h with h | h | h
   ·exact .inl (.inr ⟨rfl,h⟩)
   ·exact .inr (.inl ⟨rfl,h⟩)
   ·exact .inr (.inr (.inr ⟨rfl,h⟩))
  ·have:x.toNat≠y.toNat:=fun h=>e (UInt8.toNat_inj.1 h)
   rcases Nat.lt_or_gt_of_ne this with h | h
   ·exact .inl (.inl (Cd.2 h))
   ·exact .inr (.inr (.inl (Cd.2 h)))
theorem Ce : ∀ a b c:ay,bytesLess a b=true→bytesLess b c=true→bytesLess a c=true
 | a,b,[],h1,h2=>by cases b <;> cases h2
 | a,[],z::c,h1,h2=>by cases a <;> cases h1
 | [],y::b,z::c,h1,h2=>rfl
 | x::a,y::b,z::c,h1,h2=>by
  have h1:Go.Op.bytesLess (x::a) (y::b)=true:=h1
  have h2:Go.Op.bytesLess (y::b) (z::c)=true:=h2
  show Go.Op.bytesLess (x::a) (z::c)=true
  simp only [Go.Op.bytesLess,Bool.or_eq_true,Bool.and_eq_true,decide_eq_true_eq,beq_iff_eq]at h1 h2 ⊢
  rcases h1 with e1 | ⟨i1,e1⟩
  ·rcases h2 with e2 | ⟨i2,e2⟩
   ·exact .inl (Cd.2 (Nat.lt_trans (Cd.1 e1) (Cd.1 e2)))
   ·exact .inl (i2 ▸ e1)
  ·rcases h2 with e2 | ⟨i2,e2⟩
   ·exact .inl (i1 ▸ e2)
   ·exact .inr ⟨i1.trans i2,Ce a b c e1 e2⟩
def y7 (l:List ay):Prop:=l.Pairwise fun a b=>bytesLess a b=true
theorem vF : ∀ {a b:List ay},y7 a→y7 b→(∀ x,x∈a↔x∈b)→a=b
 | [],[],_,_,_=>rfl
 | [],y::b,_,_,h=>absurd ((h y).2 List.mem_cons_self) (by simp)
 | x::a,[],_,_,h=>absurd ((h x).1 List.mem_cons_self) (by simp)
 | x::a,y::b,h1,h2,h=>by
  obtain⟨g1,g2⟩:=List.pairwise_cons.1 h1
  obtain⟨g3,g4⟩:=List.pairwise_cons.1 h2
  have e:x=y:=by
   rcases List.mem_cons.1 ((h x).1 List.mem_cons_self)with e | m
   ·exact e
   ·rcases List.mem_cons.1 ((h y).2 List.mem_cons_self)with e | m'
    ·exact e.symm
    ·have:=Ce _ _ _ (g3 x m) (g1 y m');rw [wC]at this;cases this
  subst e
  rw [vF g2 g4 fun z=> ?_]
  constructor
  ·intro m
   rcases List.mem_cons.1 ((h z).1 (List.mem_cons_of_mem _ m))with e | m'
   ·subst e;have:=g1 z m;rw [wC]at this;cases this
   ·exact m'
  ·intro m
   rcases List.mem_cons.1 ((h z).2 (List.mem_cons_of_mem _ m))with e | m'
   ·subst e;have:=g3 z m;rw [wC]at this;cases this
   ·exact m'
theorem sT (out:List ay) : ∀ (l:List ay) (c:ay) (a:Bool),
 let q:=me out l c a
 (q.2=false↔a=false∧∀ x∈l,x∈out)∧(q.2=true→((a=true∧q.1=c)∨(q.1∈l∧q.1∉out))∧(a=true→bytesLess c q.1=false)∧∀ x∈l,x∉out→bytesLess x q.1=false)
 | [],c,a=>by
  simp only [me]
  refine⟨by simp,fun h=>⟨.inl ⟨h,by trivial⟩,fun _=>wC c,fun x m=>(by cases m)⟩⟩
 | s::l,c,a=>by
  simp only [me]
  by_cases h1:eH out s=true
  ·have m:=(iX _ _).1 h1
   simp only [h1,Bool.not_true,Bool.false_and,Bool.false_eq_true,if_false]
   obtain⟨k1,k2⟩:=sT out l c a
   refine⟨k1.trans ⟨fun h=>⟨h.1,fun x hx=> ?_⟩,fun h=>⟨h.1,fun x hx=>h.2 x (List.mem_cons_of_mem _ hx)⟩⟩,fun h=> ?_⟩
   ·rcases List.mem_cons.1 hx with rfl | hx
    ·exact m
    ·exact h.2 x hx
   ·obtain⟨g1,g2,g3⟩:=k2 h
    refine⟨g1.imp_right fun h=>⟨List.mem_cons_of_mem _ h.1,h.2⟩,g2,fun x hx hn=> ?_⟩
    rcases List.mem_cons.1 hx with rfl | hx
    ·exact absurd m hn
    ·exact g3 x hx hn
  ·have m:s∉out:=fun m=>h1 ((iX _ _).2 m)
   have qD:eH out s=false:=by simpa using h1
   by_cases h2:(!a || bytesLess s c)=true
   ·simp only [qD,h2,Bool.not_false,Bool.and_self,if_true]
    obtain⟨k1,k2⟩:=sT out l s true
    refine⟨⟨fun h=>absurd (k1.1 h).1 (by simp),fun h=>absurd (h.2 s List.mem_cons_self) m⟩,fun h=> ?_⟩
    obtain⟨g1,g2,g3⟩:=k2 h
    have g4:=g2 rfl
    refine⟨.inr ?_,fun ha=> ?_,fun x hx hn=> ?_⟩
    ·rcases g1 with ⟨_,e⟩ | g1
     ·rw [e];exact⟨List.mem_cons_self,m⟩
     ·exact⟨List.mem_cons_of_mem _ g1.1,g1.2⟩
    ·have h3:bytesLess s c=true:=by simpa [ha]using h2
     cases hh:bytesLess c (me out l s true).1
     ·rfl
     ·have:=Ce _ _ _ h3 hh;rw [g4]at this;cases this
    ·rcases List.mem_cons.1 hx with rfl | hx
     ·exact g4
     ·exact g3 x hx hn
   ·have vS:(!a || bytesLess s c)=false:=by simpa using h2
    have ha:a=true:=by cases a <;> simp_all
    have h3:bytesLess s c=false:=by cases a <;> simp_all
    simp only [qD,vS,Bool.not_false,Bool.and_false,Bool.false_eq_true,if_false]
    obtain⟨k1,k2⟩:=sT out l c a
    refine⟨⟨fun h=>absurd (k1.1 h).1 (by simp [ha]),fun h=>absurd h.1 (by simp [ha])⟩,fun h=> ?_⟩
    obtain⟨g1,g2,g3⟩:=k2 h
    refine⟨g1.imp_right fun h=>⟨List.mem_cons_of_mem _ h.1,h.2⟩,g2,fun x hx hn=> ?_⟩
    rcases List.mem_cons.1 hx with rfl | hx
    ·cases hh:bytesLess x (me out l c a).1
     ·rfl
     ·have g4:=g2 ha
      rcases wD x c with e | e | e
      ·rw [h3]at e;cases e
      ·subst e;rw [g4]at hh;cases hh
      ·have:=Ce _ _ _ e hh;rw [g4]at this;cases this
    ·exact g3 x hx hn
theorem vG (l:List ay) : ∀ (n:Nat) (out:List ay),y7 out→(∀ x∈out,x∈l)→(∀ x∈out,∀ y∈l,y∉out→bytesLess x y=true)→
 y7 (og l n out)∧(∀ x∈og l n out,x∈l)∧(∀ x∈out,x∈og l n out)∧((∀ x∈l,x∈og l n out)∨(og l n out).length=out.length+n)
 | 0,out,h1,h2,h3=>⟨h1,h2,fun x m=>m, .inr rfl⟩
 | n+1,out,h1,h2,h3=>by
  simp only [og,Px]
  obtain⟨k1,k2⟩:=sT out l [] false
  cases hq:(me out l [] false).2
  ·simp only [Bool.false_eq_true,if_false]
   obtain⟨g1,g2,g3,g4⟩:=vG l n out h1 h2 h3
   exact⟨g1,g2,g3, .inl fun x m=>g3 x ((k1.1 hq).2 x m)⟩
  ·simp only [if_true]
   obtain⟨g1,_,g3⟩:=k2 hq
   have g1:(me out l [] false).1∈l∧(me out l [] false).1∉out:=by
    rcases g1 with ⟨h,_⟩ | g1
    ·cases h
    ·exact g1
   generalize (me out l [] false).1=c at g1 g3
   obtain⟨r1,r2,r3,r4⟩:=vG l n (out++ [c])
    (by
     refine List.pairwise_append.2 ⟨h1,by simp,fun x hx y hy=> ?_⟩
     have:y=c:=by simpa using hy
     subst this
     exact h3 x hx y g1.1 g1.2)
    (fun x hx=>by
     rcases List.mem_append.1 hx with hx | hx
     ·exact h2 x hx
     ·have:x=c:=by simpa using hx
      subst this;exact g1.1)
    (fun x hx y hy hn=>by
     have hyo:y∉out:=fun m=>hn (List.mem_append_left _ m)
     have hyc:y≠c:=fun e=>hn (List.mem_append_right _ (by simp [e]))
     rcases List.mem_append.1 hx with hx | hx
     ·exact h3 x hx y hy hyo
     ·have:x=c:=by simpa using hx
      subst this
      rcases wD x y with h | h | h
      ·exact h
      ·exact absurd h.symm hyc
      ·rw [g3 y hy hyo]at h;cases h)
   refine⟨r1,r2,fun x m=>r3 x (List.mem_append_left _ m),r4.imp_right fun h=> ?_⟩
   rw [h];simp;omega
theorem uT : ∀ (a l:List ay),a.Nodup→(∀ x∈a,x∈l)→a.length≤l.length
 | [],l,_,_=>Nat.zero_le _
 | x::a,l,h,hm=>by
  obtain⟨h1,h2⟩:=List.nodup_cons.1 h
  have m:=hm x List.mem_cons_self
  have:=uT a (l.erase x) h2 fun y hy=>(List.mem_erase_of_ne (fun e=>h1 (by rw [← e];exact hy))).2 (hm y (List.mem_cons_of_mem _ hy))
  rw [List.length_erase_of_mem m]at this
  have:0<l.length:=List.length_pos_of_mem m
  simp only [List.length_cons];omega
theorem sU {l:List ay} (h:y7 l):l.Nodup:=h.imp fun {a b} h e=>by subst e;rw [wC]at h;cases h
theorem lk (l:List ay):y7 (jd l)∧∀ x,x∈jd l↔x∈l:=by
 obtain⟨h1,h2,h3,h4⟩:=vG l l.length [] List.Pairwise.nil (fun x m=>(by cases m)) (fun x m=>(by cases m))
 refine⟨h1,fun x=>⟨h2 x,fun m=> ?_⟩⟩
 rcases h4 with h4 | h4
 ·exact h4 x m
 ·refine Classical.byContradiction fun hn=> ?_
  have:=uT (x::og l l.length []) l (List.nodup_cons.2 ⟨hn,sU h1⟩) fun y hy=>by
   rcases List.mem_cons.1 hy with rfl | hy
   ·exact m
   ·exact h2 y hy
  simp only [List.length_cons,h4,List.length_nil]at this
  omega
theorem ID (zs:List ay) (hs:zs.Pairwise fun a b=>bytesLess b a=false) : ∀ m,m≤zs.length→
 y7 (Lib.compactUpTo zs.toArray m)∧(∀ x,x∈Lib.compactUpTo zs.toArray m↔x∈zs.take m):=by
 intro m
 induction m with
 | zero=>intro _;exact⟨by simp [Lib.compactUpTo,y7],fun x=>by simp [Lib.compactUpTo]⟩
 | succ m ih=>
  intro hm
  obtain⟨h1,h2⟩:=ih (by omega)
  have hz:zs[m]? = some zs[m]:=List.getElem?_eq_getElem (by omega)
  have e1:zs.toArray[m]! = zs[m]:=by simp [hm,Nat.lt_of_succ_le hm]
  have et:zs.take (m+1)=zs.take m++ [zs[m]]:=by rw [List.take_add_one,hz];rfl
  rw [Lib.compactUpTo_succ,e1,et]
  by_cases hk:Lib.keeps zs.toArray m=true
  ·rw [if_pos hk]
   refine⟨List.pairwise_append.2 ⟨h1,by simp,fun x hx y hy=> ?_⟩,fun x=>by rw [List.mem_append,List.mem_append,h2]⟩
   have hy:y=zs[m]:=by simpa using hy
   subst hy
   have hx:=(h2 x).1 hx
   simp only [Lib.keeps,decide_eq_true_eq]at hk
   rcases hk with rfl | hk
   ·simp at hx
   ·have G0:m - 1<zs.length:=by omega
    have e2:zs.toArray[m - 1]! = zs[m - 1]:=by simp [G0]
    rw [e1,e2]at hk
    have h0:0<m:=by
     cases m with
     | zero=>simp at hx
     | succ m=>omega
    have hle : ∀ i j (hi:i<zs.length) (hj:j<zs.length),i<j→bytesLess zs[j] zs[i] = false:=fun i j hi hj Uo=>List.pairwise_iff_getElem.1 hs i j hi hj Uo
    have g1:bytesLess zs[m] zs[m - 1] = false:=hle (m - 1) m G0 (by omega) (by omega)
    have g2:bytesLess zs[m - 1] zs[m] = true:=by
     rcases wD zs[m - 1] zs[m]with h | h | h
     ·exact h
     ·exact absurd h.symm hk
     ·rw [g1]at h;cases h
    obtain⟨i,hi,rfl⟩:=List.mem_iff_getElem.1 hx
    rw [List.length_take]at hi
    rw [List.getElem_take]
    by_cases py:i=m - 1
    ·subst py;exact g2
    ·have g3:=hle i (m - 1) (by omega) G0 (by omega)
     rcases wD zs[i] zs[m - 1]with h | h | h
     ·exact Ce _ _ _ h g2
     ·rw [h];exact g2
     ·rw [g3]at h;cases h
  ·rw [if_neg hk]
   simp only [List.append_nil]
   refine⟨h1,fun x=> ?_⟩
   rw [h2]
   simp only [Lib.keeps,decide_eq_true_eq,not_or,ne_eq,Decidable.not_not]at hk
   obtain⟨k1,k2⟩:=hk
   have G0:m - 1<zs.length:=by omega
   have e2:zs.toArray[m - 1]! = zs[m - 1]:=by simp [G0]
   rw [e1,e2]at k2
   simp only [List.mem_append,List.mem_singleton]
   constructor
   ·exact .inl
   ·rintro(h | rfl)
    ·exact h
    ·rw [k2]
     exact List.mem_iff_getElem.2 ⟨m - 1,by rw [List.length_take];omega,by rw [List.getElem_take]⟩
theorem Eh (l:List ay):(lj l).Pairwise fun a b=>bytesLess b a=false:=by
 have h:=List.pairwise_mergeSort (le:=fun x y:ay=>decide (x≤y)) (fun a b c h1 h2=> ?_) (fun a b=> ?_) l
 ·refine h.imp fun {a b} h=> ?_
  rw [decide_eq_true_eq]at h
  show Go.Op.bytesLess b a=false
  rw [Go.Proofs.bytesLess_eq]
  simpa using h
 ·rw [decide_eq_true_eq]at h1 h2 ⊢
  exact List.le_trans h1 h2
 ·have:=List.le_total a b
  simpa using this
theorem y8 (l:List ay):Lib.compact (lj l)=jd l:=by
 obtain⟨h1,h2⟩:=ID (lj l) (Eh l) (lj l).length (Nat.le_refl _)
 obtain⟨h3,h4⟩:=lk l
 refine vF h1 h3 fun x=> ?_
 rw [h4]
 refine(h2 x).trans ?_
 rw [List.take_length]
 exact(List.mergeSort_perm _ _).mem_iff
end Go.Abs

/-! Tc1 -/

namespace Go.Abs
set_option maxRecDepth 8000
open Go.Proofs
def kX:List Sm→List ay
 | []=> []
 | v::l=>if v.kind==4 then v.proc::kX l else kX l
theorem Ag : ∀ l:List Sm,(kX l).length≤l.length
 | []=>Nat.le_refl _
 | v::l=>by
  simp only [kX]
  have:=Ag l
  split <;> simp <;> omega
def Pc.calls (f:Pc):List ay:=jd (kX (Sm.dH f.body))
theorem y9 {name:ay} : ∀ {l:List Pc} {k:Nat} {f:Pc},jW name l=some f→∃ j,l[j]? = some f∧lD (fun f:Pc=>f.name==name) (k:Int) l=((k+j:Nat):Int)
 | g::l,k,f,h=>by
  simp only [jW]at h
  cases e:(g.name==name)
  ·rw [e]at h
   simp only [Bool.false_eq_true,if_false]at h
   obtain⟨j,h1,h2⟩:=y9 (k:=k+1) h
   refine⟨j+1,by simpa using h1, ?_⟩
   simp only [lD,e,Bool.false_eq_true,if_false]
   rw [show((k:Int)+1)=((k+1:Nat):Int)from rfl,h2]
   congr 1;omega
  ·rw [e]at h
   simp only [if_true,Option.some.injEq]at h
   exact⟨0,by simpa using h,by simp [lD,e]⟩
theorem W7 {p:Pg} (h:p.kc) {name:ay} {f:Pc} (hf:p.find name=some f) (s:St):aD Tryz.prog sd [.dD (gM p) 0, .str name] s (.slice .shared 1 (f.calls.map encStr)) s:=by
 refine aD.pure ?_ (by simp [D.bT,D.ok,xg]) (by simp only [D.ok,Tag.ok,eI];rfl) s
 obtain⟨sj,sB,xU⟩:=h.procs
 obtain⟨j,hj,sn⟩:=y9 (k:=0) hf
 have sn:p.at name=((j:Nat):Int):=by unfold Pg.at;simpa using sn
 have Af:=fun s=>O6 (p:=p) (by omega) name s
 rw [sn]at Af
 obtain⟨it,wz,B7⟩:=SK hj (by omega)
 have aal:it.length≤900000:=by
  have e:=congrArg List.length wz
  obtain⟨a,b,e',_,_,e3,e4⟩:=(pE p).2 j f hj
  have e5:=pF p
  have e6:=congrArg List.length e3
  rw [e4]at e5
  simp only [List.length_map,List.length_append]at e e5 e6
  omega
 unfold S0
 obtain⟨fn,xW,xX⟩:=BO
 refine aD.intro ⟨fn,xW,xX⟩ (Nat.le_of_ble_eq_true rfl) fun B hB=> ?_
 generalize hQ:hZ (⟨[],[]⟩:St).az.length (⟨[],[]⟩:St).aC.length _ _ (⟨[],[]⟩:St)=Q
 have⟨hC,hE,hF,hM⟩:=bL
 refine Sem.jR ?_
 repeat' (first
 | simp only [go_sem,hC,hE,hF,hM]
 | (with_reducible refine aH hQ ?_;simp only [aA,aB,Option.some.injEq,exists_eq_left',go_sem,hC,hE,hF,hM];repeat' (first | exact Ok.out | with_reducible refine aJ ?_ ?_ | (simp;done))))
 refine Sem.jR ?_
 repeat' (first
 | simp only [go_sem,hC,hE,hF,hM]
 | (with_reducible refine aH hQ ?_;simp only [aA,aB,Option.some.injEq,exists_eq_left',go_sem,hC,hE,hF,hM];repeat' (first | exact Ok.out | with_reducible refine aJ ?_ ?_ | (simp;done))))
 refine Sem.jR ?_
 repeat' (first
 | simp only [go_sem,hC,hE,hF,hM]
 | (with_reducible refine CU (Af _) ?_)
 | (with_reducible refine CU (B7 _) ?_)
 | (with_reducible refine aH hQ ?_;simp only [aA,aB,Option.some.injEq,exists_eq_left',go_sem,hC,hE,hF,hM];repeat' (first | exact Ok.out | with_reducible refine aJ ?_ ?_ | (simp;done))))
 refine bw.pf 5 1 rfl ?_
 simp only [go_sem,hC,hE,hF,hM]
 obtain⟨R,hR⟩ : ∃ R,R=kX (Sm.dH f.body):=⟨_,rfl⟩
 have hRl:R.length≤900000:=by rw [hR, ← wz];have:=Ag (it.map Im.s);rw [List.length_map]at this;omega
 refine dc 0 1 (bw.ind (ι:=List Im×Nat×List ay×Nat) (fun i=>it.drop i.2.1=i.1∧i.2.2.1++kX (i.1.map Im.s)=R∧i.2.2.2=i.2.2.1.length) (fun i=>i.1.length)
  (fun i=> [(5, .slice (.tok 0) 1 (i.2.2.1.map encStr)),(12, .slice .shared 17 (it.map eC)),(13, .int .i64 (it.length:Int)),(14, .int .i64 (i.2.1:Int))]) (fun i=>⟨[],[some i.2.2.2]⟩) ?_ (it,0,[],0) ⟨rfl,by rw [hR,wz];rfl,rfl⟩)
 rintro⟨rest,k,out,n⟩ ⟨h1,h2,h3⟩ IH
 dsimp only at h1 h2 h3
 subst h3
 have oH:out.length≤900000:=by have:=congrArg List.length h2;rw [List.length_append]at this;omega
 cases rest with
 | cons a rest=>
  obtain⟨hE,g2,hC,g4⟩:=drop_cons h1
  have bS:k<4611686018427387904:=by omega
  have hF:(out.length+1)*17≤bQ:=by unfold bQ;omega
  simp only [List.map_cons,kX]at h2
  rcases Bool.eq_false_or_eq_true (a.s.kind==4)with c1 | c1
  ·simp only [c1,if_true]at h2
   repeat' (first
 | simp only [go_sem,hC,hE,hF,hM,c1]
 | (with_reducible refine aH hQ ?_;simp only [aA,aB,Option.some.injEq,exists_eq_left',go_sem,hC,hE,hF,hM];repeat' (first | exact Ok.out | with_reducible refine aJ ?_ ?_ | (simp;done))))
   refine dV 0 1 ?_ ?_ (IH (rest,k+1,out++ [a.s.proc],out.length+1) ⟨g2,by rw [← h2];simp,by simp⟩ (Nat.lt_succ_self _))
   ·(simp only [go_sem,hC,hE,hF,hM,aP bS,List.map_append,List.map_cons,List.map_nil,encStr];try exact bR)
   ·(simp only [go_sem,hC,hE,hF,hM,aP bS,List.map_append,List.map_cons,List.map_nil,encStr];try exact bR)
  ·simp only [c1,Bool.false_eq_true,if_false]at h2
   repeat' (first
 | simp only [go_sem,hC,hE,hF,hM,c1]
 | (with_reducible refine aH hQ ?_;simp only [aA,aB,Option.some.injEq,exists_eq_left',go_sem,hC,hE,hF,hM];repeat' (first | exact Ok.out | with_reducible refine aJ ?_ ?_ | (simp;done))))
   refine dV 0 1 ?_ ?_ (IH (rest,k+1,out,_) ⟨g2,h2,rfl⟩ (Nat.lt_succ_self _))
   ·(simp only [go_sem,hC,hE,hF,hM,aP bS];try exact bR)
   ·(simp only [go_sem,hC,hE,hF,hM,aP bS];try exact bR)
 | nil=>
  have hC:=drop_nil h1
  simp only [List.map_nil,kX,List.append_nil]at h2
  subst h2
  have Cc:(lj out).length=out.length:=List.length_mergeSort out
  repeat' (first
 | simp only [go_sem,hC,hE,hF,hM]
 | (with_reducible refine aH hQ ?_;simp only [aA,aB,Option.some.injEq,exists_eq_left',go_sem,hC,hE,hF,hM];repeat' (first | exact Ok.out | with_reducible refine aJ ?_ ?_ | (simp;done))))
  refine Sem.seq (Sem.sort (k:=5) (t:=0) (l:=out) hB (by decide) (by decide) (by decide) rfl rfl (by omega) ?_)
  show Sem _ _ _ _ _ _ _
  refine Sem.seq (Sem.compact (k:=5) (t:=0) (l:=lj out) hB (by decide) rfl (by rw [Cc];rfl) (by rw [Cc];omega) ?_)
  rw [y8]
  have al2:f.calls=jd out:=by unfold Pc.calls;rw [hR]
  rw [al2]at hQ
  refine gL (ac:= .ret) (Q:=Q) (tm:= [(32, .slice (.tok 0) 1 ((jd out).map encStr)),(4, .slice (.tok 0) 1 ((jd out).map encStr))]) (s:=⟨[],[some (jd out).length]⟩) ?_
  repeat' (first
 | simp only [go_sem,hC,hE,hF,hM]
 | (with_reducible refine aH hQ ?_;simp only [aA,aB,Option.some.injEq,exists_eq_left',go_sem,hC,hE,hF,hM];repeat' (first | exact Ok.out | with_reducible refine aJ ?_ ?_ | (simp;done))))
end Go.Abs

/-! Tc2 -/

namespace Go.Abs
set_option maxRecDepth 8000
open Go.Proofs
theorem Ei {name:ay} : ∀ {l:List Pc},name∈l.map (·.name)→∃ f,jW name l=some f
 | f::l,h=>by
  simp only [jW]
  cases e:(f.name==name)
  ·simp only [Bool.false_eq_true,if_false]
   refine Ei ?_
   rcases List.mem_cons.1 h with h | h
   ·rw [h]at e;simp at e
   ·exact h
  ·exact⟨f,rfl⟩
theorem Ej {p:Pg} {f:Pc} {procs:List ay} : ∀ {l:List Sm},y5 p f procs l=none→∀ v∈l,v.known p f procs=true
 | v::l,h,w,m=>by
  simp only [y5]at h
  split at h
  ·rename_i e
   rcases List.mem_cons.1 m with rfl | m
   ·exact e
   ·exact Ej h w m
  ·cases h
theorem Ek {p:Pg} {procs:List ay} : ∀ {l:List Pc},((rR p procs l).1==0)=true→∀ f∈l,fY (p.globals++f.own)=false∧∀ v∈Sm.dH f.body,v.known p f procs=true
 | g::l,h,f,m=>by
  simp only [rR]at h
  split at h
  ·cases h
  ·rename_i e
   split at h
   ·cases h
   ·rename_i e2
    rcases List.mem_cons.1 m with rfl | m
    ·exact⟨by simpa using e,Ej e2⟩
    ·exact Ek h f m
theorem Ha {p:Pg} (h:(p.scope.1==0)=true):fY p.globals=false∧fY p.pn=false∧p.wA=false∧∀ f∈p.procs,fY (p.globals++f.own)=false∧∀ v∈Sm.dH f.body,v.known p f p.pn=true:=by
 unfold Pg.scope at h
 split at h
 ·split at h
  ·cases h
  ·rename_i e
   simp only [Bool.or_eq_true,not_or,Bool.not_eq_true]at e
   exact⟨e.1,e.2.1,e.2.2,Ek h⟩
 ·cases h
theorem vH {x:ay} : ∀ {l:List Sm},x∈kX l↔∃ v∈l,v.kind=4∧v.proc=x
 | []=>by simp [kX]
 | v::l=>by
  simp only [kX]
  cases e:(v.kind==4)
  ·have:v.kind≠4:=by simpa using e
   simp [this,vH (l:=l)]
  ·have:v.kind=4:=by simpa using e
   simp only [if_true,List.mem_cons,vH (l:=l),exists_eq_or_imp,this,true_and]
   constructor
   ·rintro(h | h)
    ·exact .inl h.symm
    ·exact .inr h
   ·rintro(h | h)
    ·exact .inl h.symm
    ·exact .inr h
theorem PA {f:Pc} {x:ay} : x∈f.calls↔∃ v∈Sm.dH f.body,v.kind=4∧v.proc=x:=by
 unfold Pc.calls;rw [(lk _).2,vH]
theorem Ah {p:Pg} (h:(p.scope.1==0)=true) {f:Pc} (hf:f∈p.procs) {x:ay} (m:x∈f.calls) : ∃ g,p.find x=some g:=by
 obtain⟨v,hv,h4,rfl⟩:=PA.1 m
 have hk:=((Ha h).2.2.2 f hf).2 v hv
 simp only [Sm.known,h4,Bool.and_eq_true,Bool.or_eq_true]at hk
 rcases hk.2 with h | ⟨_,h⟩
 ·simp at h
 ·exact Ei ((iX _ _).1 h)
def Cf (p:Pg) (x:ay):List ay:=match p.find x with | some f=>f.calls | none=> []
def AW (out:List ay):List ay→List ay
 | []=>out
 | x::l=>AW (zw out x) l
def uU (p:Pg):Nat→Nat→List ay→List ay
 | 0,_,out=>out
 | n+1,i,out=>match out[i]? with
  | some x=>uU p n (i+1) (AW out (Cf p x))
  | none=>out
def Pg.work (p:Pg) (name:ay):List ay:=uU p (p.procs.length+1) 0 [name]
def Good (p:Pg) (out:List ay):Prop:=out.Nodup∧∀ x∈out,∃ f,p.find x=some f
theorem Good.len {p:Pg} {out:List ay} (h:Good p out):out.length≤p.procs.length:=by
 have:=uT out p.pn h.1 fun x m=>by
  obtain⟨f,hf⟩:=h.2 x m
  obtain⟨h1,h2⟩:=qU hf
  rw [← h2];exact List.mem_map_of_mem h1
 simpa [Pg.pn]using this
theorem Good.spk {p:Pg} {out:List ay} (h:Good p out) {x:ay} (hx : ∃ f,p.find x=some f):Good p (zw out x):=by
 unfold zw
 split
 ·exact h
 ·rename_i e
  have:x∉out:=fun m=>e ((iX _ _).2 m)
  refine⟨List.nodup_append.2 ⟨h.1,by simp,fun a ha b hb e'=> ?_⟩,fun y hy=> ?_⟩
  ·have hbx:b=x:=by simpa using hb
   rw [e',hbx]at ha;exact this ha
  ·rcases List.mem_append.1 hy with hy | hy
   ·exact h.2 y hy
   ·have:y=x:=by simpa using hy
    subst this;exact hx
theorem Good.add {p:Pg} : ∀ {l out:List ay},Good p out→(∀ x∈l,∃ f,p.find x=some f)→Good p (AW out l)
 | [],out,h,_=>h
 | x::l,out,h,hx=>Good.add (l:=l) (out:=zw out x) (Good.spk h (hx x List.mem_cons_self)) fun y m=>hx y (List.mem_cons_of_mem _ m)
end Go.Abs

/-! Tc3 -/

namespace Go.Abs
set_option maxRecDepth 8000
open Go.Proofs
def tgB:Bool→Tag
 | true=> .tok 0
 | false=> .full
def tkB:Bool→Nat→List (Option Nat)
 | true,n=> [some n]
 | false,_=> []
end Go.Abs

/-! Bsl -/

namespace Go.Abs
def xm:AI→AI
 | .op d g (.cT z k n ps)=> .op d g (.s5 z k n ps)
 | a=>a
section
variable {P:Program}
theorem IE {nt:Nat} {ops:Array Oper} {i:Nat} {o:Oper} {ai:AI} (hi:ops[i]? = some o) (hc:cI P nt ops o=some ai)
 {M:Map} {s:St} {w:World} {tm:Tm} {act:Act} (r:Rel M s w) (kH:Laid M s w) (ht:k5 M s tm act.tmps) {K':Tm→St→Prop} (h:hS P [xm ai] K' tm s)
 {K:Act→World→Prop} {Q:Exit→Act→World→Prop}
 (hK : ∀ d v s1 w1 M1,K' (tm.put ai.dst d) s1→Ext M s w M1 s1 w1→Rel M1 s1 w1→RD M1 s1 d v→K (act.put o.dst v) w1):wpOp P ops Q i K act w:=by
 by_cases hb : ∃ d g z k n ps,ai = .op d g (.cT z k n ps)
 ·obtain⟨d0,g0,z,k,n,ps,rfl⟩:=hb
  obtain⟨g,hg,_,hb⟩:=yE hc
  rw [rC hb]at hK
  simp only [wpOp,hi]
  have skip:K' (tm.put o.dst (.tuple [])) s→K (act.put o.dst Go.undef) w:=fun hk=>hK _ _ _ _ _ hk (Ext.refl M s w) r .undef
  have hd:=rC hb
  simp only [AI.dst]at hd
  subst hd
  have mQ:Bc P o=some (.cT z k n ps)∧g0=g:=by
   unfold qW at hb
   split at hb
   ·split at hb
    ·obtain⟨xs,_,h⟩:=map_some hb;cases h
    ·cases hb
   ·obtain⟨xs,_,h⟩:=map_some hb;cases h
   ·split at hb
    ·cases hb
    ·split at hb
     ·rename_i mQ
      simp only [Option.some.injEq,AI.op.injEq,true_and]at hb
      obtain⟨h1,h2⟩:=hb
      split at h2
      ·cases h2
      ·cases h2;exact⟨mQ,h1.symm⟩
     ·rename_i ao fi mQ
      simp only [Option.some.injEq,AI.op.injEq,true_and]at hb
      obtain⟨h1,h2⟩:=hb
      subst h2
      exact⟨mQ,h1.symm⟩
     ·cases hb
  obtain⟨mQ,rfl⟩:=mQ
  simp only [xm,hS]at h
  rcases jb hg ht h with ⟨hw,hA⟩ | ⟨hw,hB⟩
  ·simp only [hw,if_true]
   left
   split at hA
   ·rename_i d s' pz
    obtain⟨v,w',M',dA,r',hv,e'⟩:=wU mQ r ht pz
    unfold Oper.wp
    rcases dA with dA | ⟨dA,rfl⟩
    ·rw [dA,Oper.upon_value]
     exact hK _ _ _ _ _ hA e' r' hv
    ·rw [dA,Oper.upon_skip]
     exact hK _ _ _ _ _ hA e' r' hv
   ·exact hA.elim
  ·simp only [hw]
   exact skip hB
 ·have hs:xm ai=ai:=by
   unfold xm
   split
   ·rename_i d g z k n ps;exact absurd ⟨d,g,z,k,n,ps,rfl⟩ hb
   ·rfl
  rw [hs]at h
  exact vm hi hc r kH ht h hK
theorem W8 {a:AI} {r:List AI} {K:Tm→St→Prop} {tm:Tm} {s:St} (h:hS P (a::r) K tm s):hS P [a] (hS P r K) tm s:=by
 cases a <;> exact h
theorem El {B:eU} {nt:Nat} {ops:Array Oper} {Q:Exit→Tm→St→Prop} : ∀ (l:List Nat) (ol:List Oper) (is:List AI),l.map (ops[·]?)=ol.map some→pO P nt ops ol=some is→
 ∀ (tm:Tm) (s:St) (act:Act) (w:World),hS P (is.map xm) (Q .normal) tm s→Holds B nt tm s act w→wpOps P ops (ox B nt Q) l act w
 | [],[],is,_,hc,tm,s,act,w,h,hh=>by cases hc;exact⟨tm,s,h,hh⟩
 | [],_::_,_,hl,_,_,_,_,_,_,_=>by simp at hl
 | _::_,[],_,hl,_,_,_,_,_,_,_=>by simp at hl
 | i::l,o::ol,is,hl,hc,tm,s,act,w,h,hh=>by
  simp only [List.map_cons,List.cons.injEq]at hl
  obtain⟨hi,hl⟩:=hl
  unfold pO at hc
  split at hc
  ·rename_i ai NF h1 h2
   cases hc
   obtain⟨M,e,r,ht,hn,hd⟩:=hh
   have pd:=vQ h1
   have hdd:=rD h1
   rw [List.map_cons]at h
   have key:=IE (K:=fun act w=>wpOps P ops (ox B nt Q) l act w) (Q:=ox B nt Q) hi h1 r (B.laid.ext e) ht (W8 h) (fun d v s1 w1 M1 hk e1 r1 hv=>
    El (Q:=Q) l ol NF hl h2 _ _ _ _ hk (hdd ▸ Holds.put e ht hn hd pd e1 r1 hv))
   simpa only [wpOps,wpOp,hi]using key
  ·cases hc
theorem Sem.swap {B:eU} {nt:Nat} {is:List AI} {Q:Exit→Tm→St→Prop} {tm:Tm} {s:St} (h:gp P B nt (.run (is.map xm)) Q tm s):Sem P B nt (.run is) Q tm s:=by
 intro c hc act w hh
 obtain⟨id,ops,rfl,hi⟩:=ku hc
 refine wp_region ?_
 exact El _ _ is (yx ops) hi tm s act w (mY h) hh
end
end Go.Abs

/-! Tc4 -/

namespace Go.Abs
set_option maxRecDepth 8000
open Go.Proofs
theorem My {l:List ay} (h:l.Nodup):lj l=jd l:=by
 refine vF ?_ (lk l).1 fun x=> ?_
 ·have h1:=Eh l
  have h2:(lj l).Nodup:=(List.mergeSort_perm l _).nodup_iff.2 h
  refine(List.pairwise_and_iff.2 ⟨h1,h2⟩).imp fun {a b} Aa=> ?_
  rcases wD a b with e | e | e
  ·exact e
  ·exact absurd e Aa.2
  ·rw [Aa.1]at e;cases e
 ·rw [(lk l).2];exact(List.mergeSort_perm l _).mem_iff
theorem za {p:Pg} (mw:(p.scope.1==0)=true) : ∀ (n i:Nat) (out:List ay),Good p out→Good p (uU p n i out)
 | 0,i,out,h=>h
 | n+1,i,out,h=>by
  simp only [uU]
  split
  ·rename_i x hx
   obtain⟨g,hg⟩:=h.2 x (List.mem_of_getElem? hx)
   refine za mw n _ _ (h.add fun y m=> ?_)
   unfold Cf at m
   rw [hg]at m
   exact Ah mw (qU hg).1 m
  ·exact h
theorem AX {p:Pg} {name:ay} {f:Pc} (hf:p.find name=some f):Good p [name]:=
 ⟨by simp,fun x m=>by
  have:x=name:=by simpa using m
  subst this;exact⟨f,hf⟩⟩
theorem W9 {p:Pg} (h:p.kc) (mw:(p.scope.1==0)=true) {name:ay} {f:Pc} (hf:p.find name=some f) (s:St):aD Tryz.prog vt [.dD (gM p) 0, .str name] s (.slice .shared 1 ((jd (p.work name)).map encStr)) s:=by
 refine aD.pure ?_ (by simp [D.bT,D.ok,xg]) (by simp only [D.ok,Tag.ok,eI];rfl) s
 obtain⟨sj,sB,xU⟩:=h.procs
 obtain⟨R,hR⟩ : ∃ R,p.work name=R:=⟨_,rfl⟩
 have hgR:Good p R:=hR ▸ za mw _ _ _ (AX hf)
 rw [hR, ← My hgR.1]
 unfold Pg.work at hR
 have hg0:Good p [name]:=AX hf
 have hRl:=hgR.len
 unfold S0
 obtain⟨fn,xW,xX⟩:=EZ
 refine aD.intro ⟨fn,xW,xX⟩ (Nat.le_of_ble_eq_true rfl) fun B hB=> ?_
 generalize hQ:hZ (⟨[],[]⟩:St).az.length (⟨[],[]⟩:St).aC.length _ _ (⟨[],[]⟩:St)=Q
 have⟨hC,hE,hF,hM⟩:=bL
 refine Sem.jR ?_
 repeat' (first
 | simp only [go_sem,hC,hE,hF,hM]
 | (with_reducible first | refine bD fun hc=> ?_ | refine bE fun hc=> ?_ | refine bF (fun hc=> ?_) fun hc=> ?_) <;> (try simp only [hc,bs, ↓reduceIte]at h) <;> try simp only [hc]
 | (with_reducible refine aH hQ ?_;exact lJ)
 | (cases h;done))
 refine Sem.seq (Sem.swap ?_)
 simp only [List.map_cons,List.map_nil,xm]
 repeat' (first
 | simp only [go_sem,hC,hE,hF,hM]
 | (with_reducible first | refine bD fun hc=> ?_ | refine bE fun hc=> ?_ | refine bF (fun hc=> ?_) fun hc=> ?_) <;> (try simp only [hc,bs, ↓reduceIte]at h) <;> try simp only [hc]
 | (with_reducible refine aH hQ ?_;exact lJ)
 | (cases h;done))
 refine Sem.jR ?_
 repeat' (first
 | simp only [go_sem,hC,hE,hF,hM]
 | (with_reducible first | refine bD fun hc=> ?_ | refine bE fun hc=> ?_ | refine bF (fun hc=> ?_) fun hc=> ?_) <;> (try simp only [hc,bs, ↓reduceIte]at h) <;> try simp only [hc]
 | (with_reducible refine aH hQ ?_;exact lJ)
 | (cases h;done))
 refine dc 0 1 (bw.ind (ι:=Nat×Nat×List ay×Nat) (fun i=>uU p i.1 i.2.1 i.2.2.1=R∧Good p i.2.2.1∧i.1+i.2.1=p.procs.length+1∧i.2.2.2=i.2.2.1.length) (fun i=>i.1)
  (fun i=> [(0, .dD (gM p) 0),(5, .slice (.tok 0) 1 (i.2.2.1.map encStr)),(6, .int .i64 (i.2.1:Int))]) (fun i=>⟨[],[some i.2.2.2]⟩) ?_ (p.procs.length+1,0,[name],1) ⟨hR,hg0,rfl,rfl⟩)
 rintro⟨n,i,out,no⟩ ⟨h1,h2,h3,h4⟩ IH
 dsimp only at h1 h2 h3 h4
 subst h4
 have oH:=h2.len
 cases hx:out[i]? with
 | none=>
  have hC:decide ((i:Int)<(out.length:Int))=false:=by have:=List.getElem?_eq_none_iff.1 hx;simp;omega
  have:R=out:=by
   cases n with
   | zero=>simpa [uU]using h1.symm
   | succ n=>simp only [uU,hx]at h1;exact h1.symm
  subst this
  repeat' (first
 | simp only [go_sem,hC,hE,hF,hM]
 | (with_reducible first | refine bD fun hc=> ?_ | refine bE fun hc=> ?_ | refine bF (fun hc=> ?_) fun hc=> ?_) <;> (try simp only [hc,bs, ↓reduceIte]at h) <;> try simp only [hc]
 | (with_reducible refine aH hQ ?_;exact lJ)
 | (cases h;done))
  refine Sem.seq (Sem.sort (k:=5) (t:=0) (l:=R) hB (by decide) (by decide) (by decide) rfl rfl (by omega) ?_)
  refine gL (ac:=ZB) (Q:=Q) (tm:= [(5, .slice (.tok 0) 1 ((lj R).map encStr))]) (s:=⟨[],[some R.length]⟩) ?_
  repeat' (first
 | simp only [go_sem,hC,hE,hF,hM]
 | (with_reducible first | refine bD fun hc=> ?_ | refine bE fun hc=> ?_ | refine bF (fun hc=> ?_) fun hc=> ?_) <;> (try simp only [hc,bs, ↓reduceIte]at h) <;> try simp only [hc]
 | (with_reducible refine aH hQ ?_;exact lJ)
 | (cases h;done))
 | some x=>
  have pA:=(List.getElem?_eq_some_iff.1 hx).1
  have hC:decide ((i:Int)<(out.length:Int))=true:=by simp;omega
  have py:i<4611686018427387904:=by omega
  cases n with
  | zero=>omega
  | succ n=>
  simp only [uU,hx]at h1
  obtain⟨g,oS⟩:=h2.2 x (List.mem_of_getElem? hx)
  have hgm:=(qU oS).1
  have VD:=fun s=>W7 h oS s
  have hcn:Cf p x=g.calls:=by unfold Cf;rw [oS]
  rw [hcn]at h1
  have hth : ∀ y∈g.calls,∃ f,p.find y=some f:=fun y m=>Ah mw hgm m
  have aup:g.calls.length≤p.procs.length:=Good.len ⟨sU (lk _).1,hth⟩
  obtain⟨W,hW⟩ : ∃ W,AW out g.calls=W:=⟨_,rfl⟩
  rw [hW]at h1
  repeat' (first
 | simp only [go_sem,hC,hE,hF,hM,hx]
 | (with_reducible refine CU (VD _) ?_)
 | (with_reducible first | refine bD fun hc=> ?_ | refine bE fun hc=> ?_ | refine bF (fun hc=> ?_) fun hc=> ?_) <;> (try simp only [hc,bs, ↓reduceIte]at h) <;> try simp only [hc]
 | (with_reducible refine aH hQ ?_;(try cases h);simp only [aA,aB,bM,bN,go_sem,hC,hE,hF,hM,hx];try exact rH)
 | (cases h;done))
  refine dc 0 1 (bw.ind (ι:=List ay×Nat×List ay×Nat) (fun j=>g.calls.drop j.2.1=j.1∧AW j.2.2.1 j.1=W∧Good p j.2.2.1∧j.2.2.2=j.2.2.1.length) (fun j=>j.1.length)
   (fun j=> [(0, .dD (gM p) 0),(5, .slice (.tok 0) 1 (j.2.2.1.map encStr)),(6, .int .i64 (i:Int)),(22, .slice .shared 1 (g.calls.map encStr)),(23, .int .i64 (g.calls.length:Int)),(24, .int .i64 (j.2.1:Int))]) (fun j=>⟨[],[some j.2.2.2]⟩) ?_ (g.calls,0,out,out.length) ⟨rfl,hW,h2,rfl⟩)
  clear hW
  rintro⟨rest,k,b9,n'⟩ ⟨j1,j2,j3,j4⟩ VA
  dsimp only at j1 j2 j3 j4
  subst j4
  have auq:=j3.len
  cases rest with
  | nil=>
   have aau:=drop_nil j1
   simp only [AW]at j2
   subst j2
   repeat' (first
 | simp only [go_sem,hC,hE,hF,hM,aau]
 | (with_reducible first | refine bD fun hc=> ?_ | refine bE fun hc=> ?_ | refine bF (fun hc=> ?_) fun hc=> ?_) <;> (try simp only [hc,bs, ↓reduceIte]at h) <;> try simp only [hc]
 | (with_reducible refine aH hQ ?_;(try cases h);simp only [aA,aB,bM,bN,go_sem,hC,hE,hF,hM,aau];try exact rH)
 | (cases h;done))
   refine dV 0 1 ?_ ?_ (IH (n,i+1,b9,b9.length) ⟨h1,j3,by dsimp only;omega,rfl⟩ (Nat.lt_succ_self _))
   ·(simp only [go_sem,hC,hE,hF,hM,aP py];try exact bR)
   ·(simp only [go_sem,hC,hE,hF,hM,aP py];try exact bR)
  | cons y rest=>
   obtain⟨nZ,Ji,wB,jg4⟩:=drop_cons j1
   have rO:k<4611686018427387904:=by omega
   have hF:(b9.length+1)*17≤bQ:=by unfold bQ;omega
   have Em:=fun g s=>iB (l:=b9) (by omega) y g s
   have hy:=hth y (List.mem_of_getElem? nZ)
   have zZ:=j3.spk hy
   simp only [AW]at j2
   rcases Bool.eq_false_or_eq_true (eH b9 y)with c1 | c1
   ·simp only [zw,c1,if_true]at j2
    repeat' (first
 | simp only [go_sem,hC,hE,hF,hM,wB,nZ,c1]
 | (with_reducible refine CU (Em _ _) ?_)
 | (with_reducible first | refine bD fun hc=> ?_ | refine bE fun hc=> ?_ | refine bF (fun hc=> ?_) fun hc=> ?_) <;> (try simp only [hc,bs, ↓reduceIte]at h) <;> try simp only [hc]
 | (with_reducible refine aH hQ ?_;(try cases h);simp only [aA,aB,bM,bN,go_sem,hC,hE,hF,hM,wB,nZ,c1];try exact rH)
 | (cases h;done))
    refine dV 0 1 ?_ ?_ (VA (rest,k+1,b9,b9.length) ⟨Ji,j2,j3,rfl⟩ (Nat.lt_succ_self _))
    ·(simp only [go_sem,hC,hE,hF,hM,aP rO];try exact bR)
    ·(simp only [go_sem,hC,hE,hF,hM,aP rO];try exact bR)
   ·simp only [zw,c1,Bool.false_eq_true,if_false]at j2 zZ
    repeat' (first
 | simp only [go_sem,hC,hE,hF,hM,wB,nZ,c1]
 | (with_reducible refine CU (Em _ _) ?_)
 | (with_reducible first | refine bD fun hc=> ?_ | refine bE fun hc=> ?_ | refine bF (fun hc=> ?_) fun hc=> ?_) <;> (try simp only [hc,bs, ↓reduceIte]at h) <;> try simp only [hc]
 | (with_reducible refine aH hQ ?_;(try cases h);simp only [aA,aB,bM,bN,go_sem,hC,hE,hF,hM,wB,nZ,c1];try exact rH)
 | (cases h;done))
    refine dV 0 1 ?_ ?_ (VA (rest,k+1,b9++ [y],b9.length+1) ⟨Ji,j2,zZ,by simp⟩ (Nat.lt_succ_self _))
    ·(simp only [go_sem,hC,hE,hF,hM,aP rO,List.map_append,List.map_cons,List.map_nil,encStr];try exact bR)
    ·(simp only [go_sem,hC,hE,hF,hM,aP rO,List.map_append,List.map_cons,List.map_nil,encStr];try exact bR)
end Go.Abs

/-! Tc5 -/

namespace Go.Abs
set_option maxRecDepth 8000
open Go.Proofs
theorem Hb (name:ay) : ∀ l:List Pc,l.any (fun f=>f.name==name)=(jW name l).isSome
 | []=>rfl
 | f::l=>by
  simp only [List.any_cons,jW]
  cases e:(f.name==name)
  ·simp [Hb name l]
  ·simp
theorem Td (name:ay) (f:Pc):aD Tryz.prog nD ([.agg (cL f)]++ [.ptr 0 0]) ⟨[[.str name]],[]⟩ (.bool (f.name==name)) ⟨[[.str name]],[]⟩:=by
 show aD Tryz.prog nD [.agg (cL f), .ptr 0 0] _ _ _
 refine aD.go zM rfl fun B Q hB hQ=> ?_
 have⟨hC,hE,hF,hM⟩:=bL
 repeat' (first
 | simp only [go_sem,hC,hE,hF,hM]
 | (with_reducible refine aH hQ ?_;simp only [aA,aB,Option.some.injEq,exists_eq_left',go_sem,hC,hE,hF,hM];repeat' (first | exact Ok.out | with_reducible refine aJ ?_ ?_ | (simp;done))))
def Pg.xn (p:Pg) (name:ay):Option Pc:=if p.scope.1==0 then p.find name else none
theorem Te {p:Pg} (h:p.kc) (name:ay) (s:St):aD Tryz.prog sb [.agg (cB p), .str name] s (.bool (p.xn name).isSome) s:=by
 refine aD.pure ?_ (by simp [D.bT,D.ok,jC]) rfl s
 obtain⟨sj,sB,xU⟩:=h.procs
 have si:=fun s=>tM h s
 have hi:=fun {s:St} {o:Nat} (ho:s.az[o]? = some [.str name])=>yZ (x7 (l:=p.procs) (f:=nD) (row:= [.str name]) (b:=fun f:Pc=>f.name==name) (by omega) rfl (by with_unfolding_all rfl) (fun x _=>Td name x)) rfl (Fe _) rfl ho
 have gD:=fun {s:St} {o:Nat} (ho:s.az[o]? = some [.str name])=>(show aD Tryz.prog fU [.slice .shared 5 (p.procs.map cL), .ga 164 [.ptr o 0]] s (.bool (p.procs.any fun f:Pc=>f.name==name)) s from hi ho)
 simp only [Hb]at gD
 unfold Pg.xn Pg.find
 unfold S0
 rcases Bool.eq_false_or_eq_true (p.scope.1==0)with b1 | b1
 ·simp only [b1,if_true]
  refine aD.go uI rfl fun B Q hB hQ=> ?_
  have⟨hC,hE,hF,hM⟩:=bL
  repeat' (first
 | simp only [go_sem,hC,hE,hF,hM,b1]
 | (with_reducible refine CU (si _) ?_)
 | (with_reducible refine CU (gD (by with_unfolding_all rfl)) ?_)
 | (with_reducible refine aH hQ ?_;simp only [aA,aB,Option.some.injEq,exists_eq_left',go_sem,hC,hE,hF,hM];repeat' (first | exact Ok.out | with_reducible refine aJ ?_ ?_ | (simp;done))))
 ·simp only [b1,Bool.false_eq_true,if_false,Option.isSome_none]
  refine aD.go uI rfl fun B Q hB hQ=> ?_
  have⟨hC,hE,hF,hM⟩:=bL
  repeat' (first
 | simp only [go_sem,hC,hE,hF,hM,b1]
 | (with_reducible refine CU (si _) ?_)
 | (with_reducible refine CU (gD (by with_unfolding_all rfl)) ?_)
 | (with_reducible refine aH hQ ?_;simp only [aA,aB,Option.some.injEq,exists_eq_left',go_sem,hC,hE,hF,hM];repeat' (first | exact Ok.out | with_reducible refine aJ ?_ ?_ | (simp;done))))
def Pg.asL (p:Pg) (name:ay):List ay:=match p.xn name with | some f=>f.calls | none=> []
def Pg.al3 (p:Pg) (name:ay):List ay:=match p.xn name with | some _=>jd (p.work name) | none=> []
theorem En {p:Pg} {name:ay} {f:Pc} (h:p.xn name=some f):(p.scope.1==0)=true∧p.find name=some f:=by
 unfold Pg.xn at h
 split at h
 ·exact⟨by assumption,h⟩
 ·cases h
end Go.Abs

/-! Tc6 -/

namespace Go.Abs
set_option maxRecDepth 8000
open Go.Proofs
def rh (p:Pg) (out:List ay):List ay→List ay
 | []=>out
 | v::l=>rh p (if eH p.globals v then out++ [v]else out) l
def ri (p:Pg) (out:List ay):List Sm→List ay
 | []=>out
 | v::l=>ri p (rh p out v.said) l
def rS (p:Pg) (n:ay):List Sm:=match p.find n with | some f=>Sm.dH f.body | none=> []
def sV (p:Pg) (out:List ay):List ay→List ay
 | []=>out
 | n::l=>sV p (ri p out (rS p n)) l
theorem xo (p:Pg) : ∀ (l out:List ay),out.length≤(rh p out l).length∧(rh p out l).length≤out.length+l.length
 | [],out=>⟨Nat.le_refl _,Nat.le_refl _⟩
 | v::l,out=>by
  simp only [rh]
  have h:=xo p l (if eH p.globals v then out++ [v]else out)
  have h2:out.length≤(if eH p.globals v then out++ [v]else out).length∧(if eH p.globals v then out++ [v]else out).length≤out.length+1:=by split <;> simp
  simp only [List.length_cons]
  omega
def nG:List Sm→Nat
 | []=>0
 | v::l=>v.said.length+nG l
theorem zb : ∀ a b:List Sm,nG (a++b)=nG a+nG b
 | [],b=>by simp [nG]
 | v::a,b=>by simp only [List.cons_append,nG,zb a b];omega
theorem Xa (v:Sm):v.said.length≤1+v.x.size+2*Ar.aR v.args:=by
 have : ∀ (l:List Ar) (out:List ay),(Ar.said out l).length≤out.length+2*Ar.aR l:=by
  intro l
  induction l with
  | nil=>intro out;simp [Ar.said]
  | cons a l ih=>
   intro out
   simp only [Ar.said,Ar.aR]
   refine Nat.le_trans (ih _) ?_
   have:=kb a.x
   have:1≤a.x.size:=by obtain⟨_,_,_,_⟩:=a.x;simp [Ex.size]
   simp only [List.length_append]
   split <;> simp <;> omega
 have h1:=this v.args (v.sR++v.x.names)
 have h2:=kb v.x
 have h4:v.sR.length≤1:=by unfold Sm.sR;split <;> simp
 simp only [List.length_append]at h1
 unfold Sm.said
 omega
mutual
theorem PB : ∀ s:Sm,nG s.pre≤2*s.size
 | ⟨id,kind,labels,name,proc,x,has,args,a7,aX⟩=>by
  simp only [Sm.pre,nG,zb,Sm.size]
  have h1:=Xa ⟨id,kind,labels,name,proc,x,has,args,a7,aX⟩
  have h2:=sW a7
  have h3:=sW aX
  dsimp only at h1
  omega
theorem sW : ∀ l:List Sm,nG (Sm.dH l)≤2*Sm.aR l
 | []=>by simp [Sm.dH,nG,Sm.aR]
 | s::l=>by
  simp only [Sm.dH,zb,Sm.aR]
  have:=PB s;have:=sW l;omega
end
theorem xp (p:Pg) : ∀ (l:List Sm) (out:List ay),out.length≤(ri p out l).length∧(ri p out l).length≤out.length+nG l
 | [],out=>⟨Nat.le_refl _,Nat.le_refl _⟩
 | v::l,out=>by
  simp only [ri,nG]
  have h:=xp p l (rh p out v.said)
  have h2:=xo p v.said out
  omega
theorem xq {p:Pg} (h:p.kc) : ∀ (l out:List ay),out.length≤(sV p out l).length∧(sV p out l).length≤out.length+l.length*1800000
 | [],out=>⟨Nat.le_refl _,by simp [sV]⟩
 | n::l,out=>by
  simp only [sV]
  have h1:=xq h l (ri p out (rS p n))
  have h2:=xp p (rS p n) out
  have h3:nG (rS p n)≤1800000:=by
   unfold rS
   split
   ·rename_i f hf
    have:=sW f.body
    have h4:=Pc.cd (qU hf).1
    have h5:=h.procs.2.1
    simp only [Pc.size]at h4
    omega
   ·simp [nG]
  simp only [List.length_cons]
  omega
theorem PC {p:Pg} (h:p.may=true):p.procs.length≤16:=by
 unfold Pg.may at h
 split at h
 ·cases h
 ·rename_i c
  simp only [Bool.or_eq_true,decide_eq_true_eq,not_or,Int.not_lt,gt_iff_lt]at c
  have:=c.1.2
  omega
def Pg.qV (p:Pg) (name:ay):List ay:=sV p [] (jd (p.work name))
def Pg.oT (p:Pg) (name:ay):List ay:=match p.xn name with | some _=>jd (p.qV name) | none=> []
theorem Hc {p:Pg} (mw:(p.scope.1==0)=true) {name:ay} {f:Pc} (hf:p.find name=some f):Good p (jd (p.work name)):=by
 have h:=za mw (p.procs.length+1) 0 [name] (AX hf)
 refine⟨sU (lk _).1,fun x m=>h.2 x ?_⟩
 exact((lk _).2 x).1 m
theorem PD {p:Pg} (h:p.kc) (name:ay) (s:St):aD Tryz.prog p6 [.agg (cB p), .str name] s (.slice .shared 1 ((p.oT name).map encStr)) s:=by
 refine aD.pure ?_ (by simp [D.bT,D.ok,jC]) (by simp only [D.ok,Tag.ok,eI];rfl) s
 have hk:=fun s=>Te h name s
 have dS:=fun s=>BT (p:=p) (by have:=h.procs;omega) s
 unfold Pg.oT
 unfold S0
 cases Tf:p.xn name with
 | none=>
  simp only [Tf,Option.isSome_none]at hk
  simp only [List.map_nil]
  refine aD.go sv rfl fun B Q hB hQ=> ?_
  have⟨hC,hE,hF,hM⟩:=bL
  repeat' (first
 | simp only [go_sem,hC,hE,hF,hM]
 | (with_reducible refine CU (hk _) ?_)
 | (with_reducible refine aH hQ ?_;simp only [aA,aB,Option.some.injEq,exists_eq_left',go_sem,hC,hE,hF,hM];repeat' (first | exact Ok.out | with_reducible refine aJ ?_ ?_ | (simp;done))))
 | some f=>
 obtain⟨mw,hf⟩:=En Tf
 simp only [Tf,Option.isSome_some]at hk
 dsimp only
 obtain⟨sj,sB,xU⟩:=h.procs
 have hN:=Hc mw hf
 obtain⟨N,hNe⟩ : ∃ N,jd (p.work name)=N:=⟨_,rfl⟩
 rw [hNe]at hN
 have hNl:=hN.len
 obtain⟨R,hR⟩ : ∃ R,p.qV name=R:=⟨_,rfl⟩
 rw [hR]
 unfold Pg.qV at hR
 rw [hNe]at hR
 have hRl:R.length≤28800000:=by
  have:=(xq h N []).2
  rw [hR]at this
  have h4:=PC (Ed mw)
  have h3:N.length*1800000≤16*1800000:=Nat.mul_le_mul_right _ (by omega)
  simp only [List.length_nil]at this
  omega
 have VD:=fun s=>W9 h mw hf s
 simp only [hNe]at VD
 obtain⟨fn,xW,xX⟩:=sv
 refine aD.intro ⟨fn,xW,xX⟩ (Nat.le_of_ble_eq_true rfl) fun B hB=> ?_
 generalize hQ:hZ (⟨[],[]⟩:St).az.length (⟨[],[]⟩:St).aC.length _ _ (⟨[],[]⟩:St)=Q
 have⟨hC,hE,hF,hM⟩:=bL
 refine Sem.jR ?_
 repeat' (first
 | simp only [go_sem,hC,hE,hF,hM]
 | (with_reducible refine aH hQ ?_;simp only [aA,aB,Option.some.injEq,exists_eq_left',go_sem,hC,hE,hF,hM];repeat' (first | exact Ok.out | with_reducible refine aJ ?_ ?_ | (simp;done))))
 refine Sem.jR ?_
 repeat' (first
 | simp only [go_sem,hC,hE,hF,hM]
 | (with_reducible refine CU (hk _) ?_)
 | (with_reducible refine aH hQ ?_;simp only [aA,aB,Option.some.injEq,exists_eq_left',go_sem,hC,hE,hF,hM];repeat' (first | exact Ok.out | with_reducible refine aJ ?_ ?_ | (simp;done))))
 refine Sem.jR ?_
 repeat' (first
 | simp only [go_sem,hC,hE,hF,hM]
 | (with_reducible refine CU (dS _) ?_)
 | (with_reducible refine aH hQ ?_;simp only [aA,aB,Option.some.injEq,exists_eq_left',go_sem,hC,hE,hF,hM];repeat' (first | exact Ok.out | with_reducible refine aJ ?_ ?_ | (simp;done))))
 refine Sem.jR ?_
 repeat' (first
 | simp only [go_sem,hC,hE,hF,hM]
 | (with_reducible refine aH hQ ?_;simp only [aA,aB,Option.some.injEq,exists_eq_left',go_sem,hC,hE,hF,hM];repeat' (first | exact Ok.out | with_reducible refine aJ ?_ ?_ | (simp;done))))
 refine Sem.jR ?_
 repeat' (first
 | simp only [go_sem,hC,hE,hF,hM]
 | (with_reducible refine CU (VD _) ?_)
 | (with_reducible refine aH hQ ?_;simp only [aA,aB,Option.some.injEq,exists_eq_left',go_sem,hC,hE,hF,hM];repeat' (first | exact Ok.out | with_reducible refine aJ ?_ ?_ | (simp;done))))
 refine bw.pf 6 1 rfl ?_
 simp only [go_sem,hC,hE,hF,hM]
 refine dc 1 1 (bw.ind (ι:=List ay×Nat×List ay×Nat) (fun i=>N.drop i.2.1=i.1∧sV p i.2.2.1 i.1=R∧i.2.2.1.length≤R.length∧i.2.2.2=i.2.2.1.length) (fun i=>i.1.length)
  (fun i=> [(2, .ptr 0 0),(5, .dD (gM p) 0),(6, .slice (.tok 0) 1 (i.2.2.1.map encStr)),(21, .slice .shared 1 (N.map encStr)),(22, .int .i64 (N.length:Int)),(23, .int .i64 (i.2.1:Int))]) (fun i=>⟨[cB p],[some i.2.2.2]⟩) ?_ (N,0,[],0) ⟨rfl,hR,Nat.zero_le _,rfl⟩)
 rintro⟨rest,k,out,no⟩ ⟨h1,h2,h3,h4⟩ IH
 dsimp only at h1 h2 h3 h4
 subst h4
 cases rest with
 | nil=>
  have hC:=drop_nil h1
  simp only [sV]at h2
  subst h2
  have Cc:(lj out).length=out.length:=List.length_mergeSort out
  repeat' (first
 | simp only [go_sem,hC,hE,hF,hM]
 | (with_reducible refine aH hQ ?_;simp only [aA,aB,Option.some.injEq,exists_eq_left',go_sem,hC,hE,hF,hM];repeat' (first | exact Ok.out | with_reducible refine aJ ?_ ?_ | (simp;done))))
  refine Sem.seq (Sem.sort (k:=6) (t:=0) (l:=out) hB (by decide) (by decide) (by decide) rfl rfl (by omega) ?_)
  refine Sem.seq (Sem.compact (k:=6) (t:=0) (l:=lj out) hB (by decide) rfl (by rw [Cc];rfl) (by rw [Cc];omega) ?_)
  rw [y8]
  refine gL (ac:= .ret) (Q:=Q) (tm:= [(59, .slice (.tok 0) 1 ((jd out).map encStr)),(4, .slice (.tok 0) 1 ((jd out).map encStr))]) (s:=⟨[],[some (jd out).length]⟩) ?_
  repeat' (first
 | simp only [go_sem,hC,hE,hF,hM]
 | (with_reducible refine aH hQ ?_;simp only [aA,aB,Option.some.injEq,exists_eq_left',go_sem,hC,hE,hF,hM];repeat' (first | exact Ok.out | with_reducible refine aJ ?_ ?_ | (simp;done))))
 | cons x rest=>
  obtain⟨hE,g2,hC,g4⟩:=drop_cons h1
  have bS:k<4611686018427387904:=by omega
  obtain⟨g,oS⟩:=hN.2 x (List.mem_of_getElem? hE)
  have hgm:=(qU oS).1
  have hbd:rS p x=Sm.dH g.body:=by unfold rS;rw [oS]
  simp only [sV,hbd]at h2
  obtain⟨j,hj,sn⟩:=y9 (k:=0) oS
  have sn:p.at x=((j:Nat):Int):=by unfold Pg.at;simpa using sn
  have Af:=fun s=>O6 (p:=p) (by omega) x s
  simp only [sn]at Af
  obtain⟨it,wz,B7⟩:=SK hj (by omega)
  have aal:it.length≤900000:=by
   have e:=congrArg List.length wz
   obtain⟨a,b,e',_,_,e3,e4⟩:=(pE p).2 j g hj
   have e5:=pF p
   have e6:=congrArg List.length e3
   rw [e4]at e5
   simp only [List.length_map,List.length_append]at e e5 e6
   omega
  rw [← wz]at h2
  repeat' (first
 | simp only [go_sem,hC,hE,hF,hM,hE]
 | (with_reducible refine CU (Af _) ?_)
 | (with_reducible refine CU (B7 _) ?_)
 | (with_reducible refine aH hQ ?_;simp only [aA,aB,Option.some.injEq,exists_eq_left',go_sem,hC,hE,hF,hM];repeat' (first | exact Ok.out | with_reducible refine aJ ?_ ?_ | (simp;done))))
  obtain⟨W,hW⟩ : ∃ W,ri p out (it.map Im.s)=W:=⟨_,rfl⟩
  rw [hW]at h2
  have hWR:W.length≤R.length:=by have:=(xq h rest W).1;rw [h2]at this;exact this
  have Pw:out.length≤W.length:=by have:=(xp p (it.map Im.s) out).1;rw [hW]at this;exact this
  refine dc 1 1 (bw.ind (ι:=List Im×Nat×List ay×Nat) (fun i=>it.drop i.2.1=i.1∧ri p i.2.2.1 (i.1.map Im.s)=W∧i.2.2.1.length≤W.length∧i.2.2.2=i.2.2.1.length) (fun i=>i.1.length)
   (fun i=> [(2, .ptr 0 0),(5, .dD (gM p) 0),(6, .slice (.tok 0) 1 (i.2.2.1.map encStr)),(21, .slice .shared 1 (N.map encStr)),(22, .int .i64 (N.length:Int)),(23, .int .i64 (k:Int)),(31, .slice .shared 17 (it.map eC)),(32, .int .i64 (it.length:Int)),(33, .int .i64 (i.2.1:Int))]) (fun i=>⟨[cB p],[some i.2.2.2]⟩) ?_ (it,0,out,out.length) ⟨rfl,hW,Pw,rfl⟩)
  rintro⟨uV,k2,AY,no⟩ ⟨j1,j2,j3,j4⟩ Pb
  dsimp only at j1 j2 j3 j4
  subst j4
  cases uV with
  | nil=>
   have al4:=drop_nil j1
   simp only [List.map_nil,ri]at j2
   subst j2
   repeat' (first
 | simp only [go_sem,hC,hE,hF,hM,al4]
 | (with_reducible refine aH hQ ?_;simp only [aA,aB,Option.some.injEq,exists_eq_left',go_sem,hC,hE,hF,hM];repeat' (first | exact Ok.out | with_reducible refine aJ ?_ ?_ | (simp;done))))
   refine dV 1 1 ?_ ?_ (IH (rest,k+1,AY,AY.length) ⟨g2,h2,hWR,rfl⟩ (Nat.lt_succ_self _))
   ·(simp only [go_sem,hC,hE,hF,hM,aP bS];try exact bR)
   ·(simp only [go_sem,hC,hE,hF,hM,aP bS];try exact bR)
  | cons y uV=>
   obtain⟨nZ,Ji,wB,jg4⟩:=drop_cons j1
   have rO:k2<4611686018427387904:=by omega
   have hym:y.s∈Sm.dH g.body:=by rw [← wz];exact List.mem_map_of_mem (List.mem_of_getElem? nZ)
   have Uq:=h.said hgm _ hym
   have Vx:=fun s=>y1 Uq s
   have Cc:=G2 _ Uq
   simp only [List.map_cons,ri]at j2
   repeat' (first
 | simp only [go_sem,hC,hE,hF,hM,wB,nZ]
 | (with_reducible refine CU (Vx _) ?_)
 | (with_reducible refine aH hQ ?_;simp only [aA,aB,Option.some.injEq,exists_eq_left',go_sem,hC,hE,hF,hM];repeat' (first | exact Ok.out | with_reducible refine aJ ?_ ?_ | (simp;done))))
   obtain⟨V,hV⟩ : ∃ V,rh p AY y.s.said=V:=⟨_,rfl⟩
   rw [hV]at j2
   have hVW:V.length≤W.length:=by have:=(xp p (uV.map Im.s) V).1;rw [j2]at this;exact this
   have hoV:AY.length≤V.length:=by have:=(xo p y.s.said AY).1;rw [hV]at this;exact this
   refine dc 1 1 (bw.ind (ι:=List ay×Nat×List ay×Nat) (fun i=>y.s.said.drop i.2.1=i.1∧rh p i.2.2.1 i.1=V∧i.2.2.1.length≤V.length∧i.2.2.2=i.2.2.1.length) (fun i=>i.1.length)
    (fun i=> [(2, .ptr 0 0),(5, .dD (gM p) 0),(6, .slice (.tok 0) 1 (i.2.2.1.map encStr)),(21, .slice .shared 1 (N.map encStr)),(22, .int .i64 (N.length:Int)),(23, .int .i64 (k:Int)),(31, .slice .shared 17 (it.map eC)),(32, .int .i64 (it.length:Int)),(33, .int .i64 (k2:Int)),(39, .slice .shared 1 (y.s.said.map encStr)),(40, .int .i64 (y.s.said.length:Int)),(41, .int .i64 (i.2.1:Int))]) (fun i=>⟨[cB p],[some i.2.2.2]⟩) ?_ (y.s.said,0,AY,AY.length) ⟨rfl,hV,hoV,rfl⟩)
   rintro⟨Cg,k3,xr,no⟩ ⟨l1,l2,l3,l4⟩ IH3
   dsimp only at l1 l2 l3 l4
   subst l4
   cases Cg with
   | nil=>
    have al5:=drop_nil l1
    simp only [rh]at l2
    subst l2
    repeat' (first
 | simp only [go_sem,hC,hE,hF,hM,al5]
 | (with_reducible refine aH hQ ?_;simp only [aA,aB,Option.some.injEq,exists_eq_left',go_sem,hC,hE,hF,hM];repeat' (first | exact Ok.out | with_reducible refine aJ ?_ ?_ | (simp;done))))
    refine dV 1 1 ?_ ?_ (Pb (uV,k2+1,xr,xr.length) ⟨Ji,j2,hVW,rfl⟩ (Nat.lt_succ_self _))
    ·(simp only [go_sem,hC,hE,hF,hM,aP rO];try exact bR)
    ·(simp only [go_sem,hC,hE,hF,hM,aP rO];try exact bR)
   | cons z Cg=>
    obtain⟨aaw,lg2,llt,lg4⟩:=drop_cons l1
    have VE:k3<4611686018427387904:=by omega
    have Em:=fun g s=>iB (l:=p.globals) (by omega) z g s
    simp only [rh]at l2
    rcases Bool.eq_false_or_eq_true (eH p.globals z)with c1 | c1
    ·simp only [c1,if_true]at l2
     have hF:(xr.length+1)*17≤bQ:=by unfold bQ;omega
     have hoo:(xr++ [z]).length≤V.length:=by have:=(xo p Cg (xr++ [z])).1;rw [l2]at this;exact this
     repeat' (first
 | simp only [go_sem,hC,hE,hF,hM,llt,aaw,c1]
 | (with_reducible refine CU (Em _ _) ?_)
 | (with_reducible refine aH hQ ?_;simp only [aA,aB,Option.some.injEq,exists_eq_left',go_sem,hC,hE,hF,hM];repeat' (first | exact Ok.out | with_reducible refine aJ ?_ ?_ | (simp;done))))
     refine dV 1 1 ?_ ?_ (IH3 (Cg,k3+1,xr++ [z],xr.length+1) ⟨lg2,l2,hoo,by simp⟩ (Nat.lt_succ_self _))
     ·(simp only [go_sem,hC,hE,hF,hM,aP VE,List.map_append,List.map_cons,List.map_nil,encStr];try exact bR)
     ·(simp only [go_sem,hC,hE,hF,hM,aP VE,List.map_append,List.map_cons,List.map_nil,encStr];try exact bR)
    ·simp only [c1,Bool.false_eq_true,if_false]at l2
     repeat' (first
 | simp only [go_sem,hC,hE,hF,hM,llt,aaw,c1]
 | (with_reducible refine CU (Em _ _) ?_)
 | (with_reducible refine aH hQ ?_;simp only [aA,aB,Option.some.injEq,exists_eq_left',go_sem,hC,hE,hF,hM];repeat' (first | exact Ok.out | with_reducible refine aJ ?_ ?_ | (simp;done))))
     refine dV 1 1 ?_ ?_ (IH3 (Cg,k3+1,xr,xr.length) ⟨lg2,l2,l3,rfl⟩ (Nat.lt_succ_self _))
     ·(simp only [go_sem,hC,hE,hF,hM,aP VE];try exact bR)
     ·(simp only [go_sem,hC,hE,hF,hM,aP VE];try exact bR)
end Go.Abs

/-! Tc7 -/

namespace Go.Abs
open Go.Proofs
end Go.Abs

/-! ScPr -/

namespace Go.Abs
open Go.Proofs
end Go.Abs

/-! FlP -/

namespace Go.Abs
mutual
def Sm.oU (deep b5:Int) (aX:Bool):Sm→List It
 | ⟨id,kind,labels,name,proc,x,has,args,a7,e⟩=>⟨⟨id,kind,labels,name,proc,x,has,args,a7,e⟩,deep,b5,aX⟩::(Sm.Tg (deep+1) id false a7++Sm.Tg (deep+1) id true e)
def Sm.Tg (deep b5:Int) (aX:Bool):List Sm→List It
 | []=> []
 | s::l=>s.oU deep b5 aX++Sm.Tg deep b5 aX l
end
def Ch (l:List Sm) (none:Int):Int:=match l with | []=>none | t::_=>t.id
mutual
def Sm.wE (proc up next loop:Int):Sm→List Im
 | ⟨id,kind,labels,name,pc,x,has,args,a7,aX⟩=>⟨⟨id,kind,labels,name,pc,x,has,args,a7,aX⟩,proc,up,next,loop⟩::
  (Sm.kD proc id (if kind==6 then id else next) (if kind==6 then id else loop) a7++Sm.kD proc id (if kind==6 then id else next) (if kind==6 then id else loop) aX)
def Sm.kD (proc up next loop:Int):List Sm→List Im
 | []=> []
 | s::l=>s.wE proc up (Ch l next) loop++Sm.kD proc up next loop l
end
def oC (n:Nat) (l:List Sm):Prop:=∀ (i:Nat) (v:Sm),l[i]? = some v→v.id=((n+i+1:Nat):Int)
theorem oC.head {n:Nat} {v:Sm} {l:List Sm} (h:oC n (v::l)):v.id=((n+1:Nat):Int):=h 0 v rfl
theorem oC.tail {n:Nat} {v:Sm} {l:List Sm} (h:oC n (v::l)):oC (n+1) l:=fun i w hw=>by
 rw [h (i+1) w (by simpa using hw)];congr 1;omega
theorem oC.left {n:Nat} {a b:List Sm} (h:oC n (a++b)):oC n a:=fun i w hw=>h i w (by rw [List.getElem?_append_left (List.getElem?_eq_some_iff.1 hw).1];exact hw)
theorem oC.right {n:Nat} {a b:List Sm} (h:oC n (a++b)):oC (n+a.length) b:=fun i w hw=>by
 rw [h (a.length+i) w (by rw [List.getElem?_append_right (by omega)];simpa using hw)];congr 1;omega
theorem Ti (s:Sm):s.pre=s::(Sm.dH s.a7++Sm.dH s.aX):=Sm.GR s
mutual
theorem Jn : ∀ s:Sm,s.fI=s.pre.length
 | ⟨id,kind,labels,name,proc,x,has,args,a7,aX⟩=>by
  simp only [Sm.fI,Sm.pre,List.length_cons,List.length_append,xu a7,xu aX];omega
theorem xu : ∀ l:List Sm,Sm.dB l=(Sm.dH l).length
 | []=>rfl
 | s::l=>by simp only [Sm.dB,Sm.dH,List.length_append,Jn s,xu l]
end
mutual
theorem VF (proc up next loop:Int) : ∀ s:Sm,(s.wE proc up next loop).map Im.s=s.pre
 | ⟨id,kind,labels,name,pc,x,has,args,a7,aX⟩=>by
  simp only [Sm.wE,Sm.pre,List.map_cons,List.map_append,wF _ _ _ _ a7,wF _ _ _ _ aX]
theorem wF (proc up next loop:Int) : ∀ l:List Sm,(Sm.kD proc up next loop l).map Im.s=Sm.dH l
 | []=>rfl
 | s::l=>by simp only [Sm.kD,Sm.dH,List.map_append,VF _ _ _ _ s,wF _ _ _ _ l]
end
theorem Xb (proc up next loop:Int) (s:Sm):(s.wE proc up next loop).length=s.pre.length:=by rw [← VF proc up next loop s,List.length_map]
theorem Hd (proc up next loop:Int) (l:List Sm):(Sm.kD proc up next loop l).length=(Sm.dH l).length:=by rw [← wF proc up next loop l,List.length_map]
mutual
theorem Xc (proc up next loop:Int) (out:List Im) : ∀ s:Sm,oC out.length s.pre→Im.one proc up next loop out s=out++s.wE proc up next loop
 | ⟨id,kind,labels,name,pc,x,has,args,a7,aX⟩,h=>by
  simp only [Sm.pre]at h
  have h0:id=((out.length+1:Nat):Int):=h.head
  have h1:=h.tail.left
  have h2:=h.tail.right
  have e0:((out.length:Int)+1)=id:=by rw [h0];rfl
  simp only [Im.one,Sm.wE,e0]
  rw [xv proc id _ _ (out++ [_]) a7 (by rw [List.length_append];exact h1)]
  rw [xv proc id _ _ _ aX (by
   rw [List.length_append,List.length_append,Hd];exact h2)]
  simp
theorem xv (proc up next loop:Int) (out:List Im) : ∀ l:List Sm,oC out.length (Sm.dH l)→Im.rows proc up next loop out l=out++Sm.kD proc up next loop l
 | [],h=>by simp [Im.rows,Sm.kD]
 | s::l,h=>by
  simp only [Sm.dH]at h
  have e:(if l.length=0 then next else(out.length:Int)+1+(s.fI:Int))=Ch l next:=by
   cases l with
   | nil=>rfl
   | cons t l=>
    have h2:=h.right
    simp only [Sm.dH]at h2
    rw [Ti t]at h2
    simp only [List.length_cons,Ch]
    rw [if_neg (by omega),h2.head,Jn]
    omega
  simp only [Im.rows,Sm.kD,e]
  rw [Xc proc up _ loop out s h.left,xv proc up next loop _ l (by rw [List.length_append,Xb];exact h.right)]
  simp
end
def Dt (n:Nat):List Pc→List Im
 | []=> []
 | f::l=>Sm.kD n 0 (-1) 0 f.body++Dt (n+1) l
theorem Xd {p:Pg} (h:p.may=true):oC 0 p.pre:=fun i v hv=>by rw [aaj h hv];congr 1;omega
def PF (l:List It):Nat→Int→Int
 | 0,_=>0
 | n+1,b5=>if b5==0 then 0 else match l[n]? with
  | none=>0
  | some x=>if x.s.id != b5 then PF l n b5 else if x.s.kind==6 then b5 else PF l n x.b5
def Up (L:List It) (k:Nat) (oU:List It) (wE:List Im):Prop:=∀ (i:Nat) (a:It) (b:Im),oU[i]? = some a→wE[i]? = some b→a.s=b.s∧a.b5=b.up∧PF L (k+i) a.b5=b.loop
end Go.Abs

/-! JmpP -/

namespace Go.Abs
def je (seen:List ay):List ay→List ay×Bool
 | []=>(seen,true)
 | n::l=>if eH seen n then(seen,false)else je (seen++ [n]) l
theorem Eo : ∀ (l seen:List ay),seen.length≤(je seen l).1.length∧(je seen l).1.length≤seen.length+l.length
 | [],seen=>by simp [je]
 | n::l,seen=>by
  simp only [je]
  split
  ·simp
  ·have:=Eo l (seen++ [n]);simp at this ⊢;omega
def Ci (Mz:List ay) (v:Sm) (loop:Int):Bool:=if v.kind==7 || v.kind==8 then loop != 0 else if v.kind==10 then eH Mz v.name else true
def zB (Mz fin seen:List ay):List (Sm×Int)→Option Int
 | []=>if(je seen fin).2 then none else some 0
 | (v,lp)::l=>if(je seen v.labels).2 then(if Ci Mz v lp then zB Mz fin (je seen v.labels).1 l else some v.id)else some v.id
def iD:List Sm→List ay
 | []=> []
 | v::l=>v.labels++iD l
def Pc.labels (f:Pc):List ay:=iD (Sm.dH f.body)++f.fin
def Im.pair (m:Im):Sm×Int:=(m.s,m.loop)
def Pc.VG (f:Pc):List (Sm×Int):=(Sm.kD 0 0 (-1) 0 f.body).map Im.pair
def xw:List Pc→Option Int
 | []=>none
 | f::l=>match zB f.labels f.fin [] f.VG with
  | some id=>some id
  | none=>xw l
def oV (c:Int):Option Int→Int×Int
 | some id=>(c,id)
 | none=>(0,0)
def Pg.jump (p:Pg):Int×Int:=if p.scope.1==0 then oV 7 (xw p.procs)else(1,0)
mutual
theorem Tj (proc up next oh PG next' loop:Int) : ∀ s:Sm,(s.wE proc up next loop).map Im.pair=(s.wE oh PG next' loop).map Im.pair
 | ⟨id,kind,labels,name,pc,x,has,args,a7,aX⟩=>by
  simp only [Sm.wE,List.map_cons,List.map_append,Im.pair]
  rw [uW proc id _ oh id (if kind==6 then id else next') _ a7,uW proc id _ oh id (if kind==6 then id else next') _ aX]
theorem uW (proc up next oh PG next' loop:Int) : ∀ l:List Sm,(Sm.kD proc up next loop l).map Im.pair=(Sm.kD oh PG next' loop l).map Im.pair
 | []=>rfl
 | s::l=>by
  simp only [Sm.kD,List.map_append]
  rw [Tj proc up _ oh PG (Ch l next') loop s,uW proc up next oh PG next' loop l]
end
theorem Tk (n:Int) (f:Pc):(Sm.kD n 0 (-1) 0 f.body).map Im.pair=f.VG:=uW _ _ _ _ _ _ _ _
def Jo (l:List It):Nat→Int→Int
 | 0,_=>0
 | n+1,id=>match l[n]? with
  | none=>0
  | some x=>if x.s.id != id then Jo l n id else if PF l n x.b5 != 0 then PF l n x.b5 else Jo l n id
end Go.Abs

/-! Jm1 -/

namespace Go.Abs
set_option maxRecDepth 8000
open Go.Proofs
theorem Jp : ∀ (l:List Pc) (n:Nat) (h:Sh),h.lo.length=n→h.hi.length=n→oC h.L.length ((l.map fun f=>Sm.dH f.body).flatten)→
 ∃ lo hi,Sh.go n h l = ⟨h.L++Dt n l,h.lo++lo,h.hi++hi⟩∧lo.length=l.length∧hi.length=l.length∧
  ∀ (i:Nat) (f:Pc),l[i]? = some f→∃ a e:List Im,lo[i]? = some (((h.L++a).length:Int)+1)∧hi[i]? = some (((h.L++a++Sm.kD ((n+i:Nat):Int) 0 (-1) 0 f.body).length:Int)+1)∧Dt n l=a++Sm.kD ((n+i:Nat):Int) 0 (-1) 0 f.body++e
 | [],n,h,hl,hh,_=>⟨[],[],by simp [Sh.go,Dt],rfl,rfl,fun i f h=>by simp at h⟩
 | f::l,n,h,hl,hh,hi=>by
  simp only [List.map_cons,List.flatten_cons]at hi
  simp only [Sh.go,Dt]
  have e1:=xv (n:Int) 0 (-1) 0 h.L f.body hi.left
  obtain⟨lo,gD,h2,h3,h4,h5⟩:=Jp l (n+1) ⟨Im.rows (n:Int) 0 (-1) 0 h.L f.body,h.lo++ [(h.L.length:Int)+1],h.hi++ [((Im.rows (n:Int) 0 (-1) 0 h.L f.body).length:Int)+1]⟩ (by simp [hl]) (by simp [hh]) (by
   show oC (Im.rows (n:Int) 0 (-1) 0 h.L f.body).length _
   rw [e1,List.length_append,Hd];exact hi.right)
  refine⟨((h.L.length:Int)+1)::lo,(((Im.rows (n:Int) 0 (-1) 0 h.L f.body).length:Int)+1)::gD, ?_,by simp [h3],by simp [h4],fun i g gD=> ?_⟩
  ·rw [h2,e1];simp
  ·cases i with
   | zero=>
    simp only [List.getElem?_cons_zero,Option.some.injEq]at gD
    subst gD
    exact⟨[],Dt (n+1) l,by simp,by rw [e1];simp,by simp⟩
   | succ i=>
    simp only [List.getElem?_cons_succ]at gD
    obtain⟨a,e,g1,g2,g3⟩:=h5 i g gD
    have en:n+1+i=n+(i+1):=by omega
    rw [en]at g2 g3
    refine⟨Sm.kD n 0 (-1) 0 f.body++a,e, ?_, ?_,by rw [g3];simp⟩
    ·rw [List.getElem?_cons_succ,g1,e1];simp
    ·rw [List.getElem?_cons_succ,g2,e1];simp
theorem aax {p:Pg} (hb:p.may=true) {i:Nat} {f:Pc} (hf:p.procs[i]? = some f) (hs:Pc.aR p.procs<1000000000) (s:St) :
 aD Tryz.prog fT [.dD (gM p) 0, .int .i64 (i:Int)] s (.slice .shared 17 ((Sm.kD (i:Int) 0 (-1) 0 f.body).map eC)) s:=by
 obtain⟨lo,hi,h1,h2,h3,h4⟩:=Jp p.procs 0 ⟨[],[],[]⟩ rfl rfl (Xd hb)
 obtain⟨a,e,g1,g2,g3⟩:=h4 i f hf
 simp only [Nat.zero_add,List.nil_append]at g1 g2 g3 h1
 refine Z4 hs (a:=a) (e:=e) ?_ ?_ ?_ s
 ·show(Sh.go 0 ⟨[],[],[]⟩ p.procs).lo[i]? = _
  rw [h1];exact g1
 ·show(Sh.go 0 ⟨[],[],[]⟩ p.procs).hi[i]? = _
  rw [h1];exact g2
 ·show(Sh.go 0 ⟨[],[],[]⟩ p.procs).L=_
  rw [h1];exact g3
theorem aD.al6 {P:Program} {f:FuncId} {pre post:List D} {rows kF:List (List D)} {z z' k k':Nat} {b:Bool} (h:aD P f (pre++ .slice (.tok 0) z rows::post) ⟨[],[some k]⟩ (.tuple [.slice (.tok 0) z' kF, .bool b]) ⟨[],[some k']⟩)
 (hp:D.bT 0 0 pre=true) (ha:D.bT 0 0 post=true) (hw:D.ja 0 0 rows=true) (N9:D.ja 0 0 kF=true)
 {s:St} {t:Nat} (ht:s.aC[t]? = some (some k)):aD P f (pre++ .slice (.tok t) z rows::post) s (.tuple [.slice (.tok t) z' kF, .bool b]) ⟨s.az,s.aC.set t (some k')⟩:=by
 refine dT.frame [] [t] h (by simp) (by simp) (by simp) (by simpa using (List.getElem?_eq_some_iff.1 ht).1) rfl (fun i o' ds e1 e2=>by simp at e1) rfl (fun i t' e1=> ?_)
  ?_ ?_ ?_
 ·cases i with
  | zero=>simp at e1;subst e1;simp [ht]
  | succ i=>simp at e1
 ·have h1:=eR [] [t] _ hp
  have h2:=eR [] [t] _ ha
  rw [fe]at h1 h2
  simp [fe,D.dF,Tag.dF,h1,h2,iF _ _ _ hw]
 ·have h1:=gG (n':=0) (m':=1) (Nat.le_refl 0) (Nat.zero_le 1) _ hp
  have h2:=gG (n':=0) (m':=1) (Nat.le_refl 0) (Nat.zero_le 1) _ ha
  rw [yz]at h1 h2 ⊢
  simp only [List.length_nil,List.length_cons,List.all_append,h1,Bool.true_and,List.all_cons,h2,Bool.and_true,D.ok,Tag.ok,mB (Nat.zero_le 0) (Nat.zero_le 1) _ hw]
  rfl
 ·rintro _ _ ⟨rfl,rfl⟩
  refine⟨by simp [D.back,D.dF,D.fK,Tag.dF,jw,iF _ _ _ N9], ?_⟩
  simp [St.back,jA]
theorem aay {seen l:List ay} (hl:seen.length+l.length<1000000000):aD Tryz.prog oL [.slice (.tok 0) 1 (seen.map encStr), .slice .shared 1 (l.map encStr)] ⟨[],[some seen.length]⟩
 (.tuple [.slice (.tok 0) 1 ((je seen l).1.map encStr), .bool (je seen l).2]) ⟨[],[some (je seen l).1.length]⟩:=by
 generalize hR:je seen l=R
 refine aD.go ER rfl fun B Q hB hQ=> ?_
 have⟨hC,hE,hF,hM⟩:=bL
 repeat' (first
 | simp only [go_sem,hC,hE,hF,hM]
 | (with_reducible refine aH hQ ?_;simp only [aA,aB,Option.some.injEq,exists_eq_left',go_sem,hC,hE,hF,hM];repeat' (first | exact Ok.out | with_reducible refine aJ ?_ ?_ | (simp;done))))
 refine dc 0 1 (bw.ind (ι:=List ay×Nat×List ay×Nat) (fun i=>l.drop i.2.1=i.1∧je i.2.2.1 i.1=R∧i.2.2.2=i.2.2.1.length∧i.2.2.1.length+i.1.length<1000000000) (fun i=>i.1.length)
  (fun i=> [(0, .slice (.tok 0) 1 (i.2.2.1.map encStr)),(8, .slice .shared 1 (l.map encStr)),(9, .int .i64 (l.length:Int)),(10, .int .i64 (i.2.1:Int))]) (fun i=>⟨[],[some i.2.2.2]⟩) ?_ (l,0,seen,seen.length) ⟨rfl,hR,rfl,hl⟩)
 clear hR
 rintro⟨rest,k,out,n⟩ ⟨h1,h2,h3,h4⟩ IH
 dsimp only at h1 h2 h3 h4
 subst h3
 cases rest with
 | nil=>
  have hC:=drop_nil h1
  simp only [je]at h2
  subst h2
  repeat' (first
 | simp only [go_sem,hC,hE,hF,hM]
 | (with_reducible refine aH hQ ?_;simp only [aA,aB,Option.some.injEq,exists_eq_left',go_sem,hC,hE,hF,hM];repeat' (first | exact Ok.out | with_reducible refine aJ ?_ ?_ | (simp;done))))
 | cons x rest=>
  obtain⟨hE,g2,hC,g4⟩:=drop_cons h1
  have bS:k<4611686018427387904:=by omega
  simp only [List.length_cons]at h4
  have hF:(out.length+1)*17≤bQ:=by unfold bQ;omega
  have Em:=fun g s=>iB (l:=out) (by omega) x g s
  simp only [je]at h2
  rcases Bool.eq_false_or_eq_true (eH out x)with c1 | c1
  ·simp only [c1,if_true]at h2
   subst h2
   repeat' (first
 | simp only [go_sem,hC,hE,hF,hM,c1]
 | (with_reducible refine CU (Em _ _) ?_)
 | (with_reducible refine aH hQ ?_;simp only [aA,aB,Option.some.injEq,exists_eq_left',go_sem,hC,hE,hF,hM];repeat' (first | exact Ok.out | with_reducible refine aJ ?_ ?_ | (simp;done))))
  ·simp only [c1,Bool.false_eq_true,if_false]at h2
   repeat' (first
 | simp only [go_sem,hC,hE,hF,hM,c1]
 | (with_reducible refine CU (Em _ _) ?_)
 | (with_reducible refine aH hQ ?_;simp only [aA,aB,Option.some.injEq,exists_eq_left',go_sem,hC,hE,hF,hM];repeat' (first | exact Ok.out | with_reducible refine aJ ?_ ?_ | (simp;done))))
   refine dV 0 1 ?_ ?_ (IH (rest,k+1,out++ [x],out.length+1) ⟨g2,h2,by simp,by simp;omega⟩ (Nat.lt_succ_self _))
   ·(simp only [go_sem,hC,hE,hF,hM,aP bS,List.map_append,List.map_cons,List.map_nil,encStr];try exact bR)
   ·(simp only [go_sem,hC,hE,hF,hM,aP bS,List.map_append,List.map_cons,List.map_nil,encStr];try exact bR)
theorem PH {seen l:List ay} (hl:seen.length+l.length<1000000000) {s:St} {t:Nat} (ht:s.aC[t]? = some (some seen.length)):aD Tryz.prog oL [.slice (.tok t) 1 (seen.map encStr), .slice .shared 1 (l.map encStr)] s
 (.tuple [.slice (.tok t) 1 ((je seen l).1.map encStr), .bool (je seen l).2]) ⟨s.az,s.aC.set t (some (je seen l).1.length)⟩:=
 (aay hl).al6 (pre:= []) (post:= [_]) rfl (by simp [D.bT,D.ok,Tag.ok,eI]) (eI _) (eI _) ht
end Go.Abs

/-! Jm2 -/

namespace Go.Abs
set_option maxRecDepth 8000
open Go.Proofs
theorem Tl (x:Im):(eC x)[2]? = some (.slice .shared 1 (x.s.labels.map encStr)):=nd rfl
theorem PI (x:Im):(eC x)[3]? = some (.str x.s.name):=nd rfl
attribute [go_sem] Tl PI
def qo (fin:List ay) (label:ay):List Sm→Int×Bool
 | []=>if eH fin label then(-1,true)else(0,false)
 | v::l=>if eH v.labels label then(v.id,true)else qo fin label l
theorem Ep (fin:List ay) (label:ay) : ∀ l:List Sm,(qo fin label l).2=eH (iD l++fin) label
 | []=>by simp only [qo,iD,List.nil_append];split <;> simp_all
 | v::l=>by
  simp only [qo,iD,List.append_assoc]
  have h:=Ep fin label l
  rw [Bool.eq_iff_iff,iX]at h
  split
  ·rename_i c
   exact((iX _ _).2 (List.mem_append.2 (.inl ((iX _ _).1 c)))).symm
  ·rename_i c
   have:label∉v.labels:=fun m=>c ((iX _ _).2 m)
   rw [Bool.eq_iff_iff,h,iX]
   exact⟨fun m=>List.mem_append.2 (.inr m),fun m=>(List.mem_append.1 m).resolve_left this⟩
theorem He {p:Pg} {v:Sm} (ho:p.kc) {f:Pc} (hf:f∈p.procs) (hv:v∈Sm.dH f.body):v.labels.length≤900000:=by
 have key : ∀ n:Nat,(∀ s:Sm,s.pre.length≤n→∀ v∈s.pre,v.labels.length≤s.size)∧(∀ l:List Sm,(Sm.dH l).length≤n→∀ v∈Sm.dH l,v.labels.length≤Sm.aR l):=by
  intro n
  induction n with
  | zero=>
   refine⟨fun s h=>by rw [Sm.GR]at h;simp at h,fun l h v m=> ?_⟩
   have:=List.eq_nil_of_length_eq_zero (Nat.le_zero.1 h)
   rw [this]at m;cases m
  | succ n ih=>
   have h1 : ∀ s:Sm,s.pre.length≤n+1→∀ v∈s.pre,v.labels.length≤s.size:=by
    intro s h v m
    rw [Sm.GR]at h m
    simp only [List.length_cons,List.length_append]at h
    obtain⟨id,kind,labels,name,proc,x,has,args,a7,aX⟩:=s
    simp only [Sm.size]
    rcases List.mem_cons.1 m with rfl | m
    ·dsimp only;omega
    ·rcases List.mem_append.1 m with m | m
     ·have:=ih.2 a7 (by dsimp only at h;omega) v m;omega
     ·have:=ih.2 aX (by dsimp only at h;omega) v m;omega
   refine⟨h1,fun l=> ?_⟩
   induction l with
   | nil=>intro _ v m;cases m
   | cons s l Zc=>
    intro h v m
    simp only [Sm.dH,List.length_append]at h
    simp only [Sm.dH]at m
    simp only [Sm.aR]
    rcases List.mem_append.1 m with m | m
    ·have:=h1 s (by omega) v m;omega
    ·have:=Zc (by omega) v m;omega
 have h1:=(key (Sm.dH f.body).length).2 f.body (Nat.le_refl _) v hv
 have h2:=Pc.cd hf
 have h3:=ho.procs.2.1
 simp only [Pc.size]at h2
 omega
theorem Er {p:Pg} (ho:p.kc) {f:Pc} (hf:f∈p.procs):f.fin.length≤900000:=by
 have h2:=Pc.cd hf
 have h3:=ho.procs.2.1
 simp only [Pc.size]at h2
 omega
theorem Cj {p:Pg} (ho:p.kc) {f:Pc} (hf:f∈p.procs):(Sm.dH f.body).length≤900000:=by
 rw [← xu]
 have:=jZ f.body
 have h2:=Pc.cd hf
 have h3:=ho.procs.2.1
 simp only [Pc.size]at h2
 omega
theorem al7 {p:Pg} (ho:p.kc) (hb:p.may=true) {i:Nat} {f:Pc} (hf:p.procs[i]? = some f) (label:ay) (s:St) :
 aD Tryz.prog qa [.dD (gM p) 0, .int .i64 (i:Int), .str label] s (.tuple [.int .i64 (qo f.fin label (Sm.dH f.body)).1, .bool (qo f.fin label (Sm.dH f.body)).2]) s:=by
 refine aD.pure ?_ (by simp [D.bT,D.ok,xg]) rfl s
 obtain⟨sj,sB,xU⟩:=ho.procs
 have xV:=List.mem_of_getElem? hf
 have B7:=fun s=>aax hb hf (by omega) s
 have vE:=wF (i:Int) 0 (-1) 0 f.body
 have Hf:=Cj ho xV
 have al8:=Er ho xV
 have xX:=fun s=>ql (l:=f.fin) (by omega) label s
 have pA:i<p.procs.length:=(List.getElem?_eq_some_iff.1 hf).1
 generalize hI:Sm.kD (i:Int) 0 (-1) 0 f.body=I at *
 have hIl:I.length≤900000:=by rw [← vE,List.length_map]at Hf;exact Hf
 obtain⟨R,hR⟩ : ∃ R,qo f.fin label (Sm.dH f.body)=R:=⟨_,rfl⟩
 rw [hR]
 rw [← vE]at hR
 unfold S0
 refine aD.go zL rfl fun B Q hB hQ=> ?_
 have⟨hC,hE,hF,hM⟩:=bL
 repeat' (first
 | simp only [go_sem,hC,hE,hF,hM]
 | (with_reducible refine CU (B7 _) ?_)
 | (with_reducible refine aH hQ ?_;simp only [aA,aB,Option.some.injEq,exists_eq_left',go_sem,hC,hE,hF,hM];repeat' (first | exact Ok.out | with_reducible refine aJ ?_ ?_ | (simp;done))))
 refine dc 0 0 (bw.ind (ι:=List Im×Nat) (fun j=>I.drop j.2=j.1∧qo f.fin label (j.1.map Im.s)=R) (fun j=>j.1.length)
  (fun j=> [(0, .dD (gM p) 0),(1, .int .i64 (i:Int)),(2, .str label),(12, .slice .shared 17 (I.map eC)),(13, .int .i64 (I.length:Int)),(14, .int .i64 (j.2:Int))]) (fun j=>⟨[],[]⟩) ?_ (I,0) ⟨rfl,hR⟩)
 clear hR
 rintro⟨rest,k⟩ ⟨h1,h2⟩ IH
 dsimp only at h1 h2
 cases rest with
 | nil=>
  have hC:=drop_nil h1
  simp only [List.map_nil,qo]at h2
  rcases Bool.eq_false_or_eq_true (eH f.fin label)with c1 | c1
  ·simp only [c1,if_true]at h2
   subst h2
   repeat' (first
 | simp only [go_sem,hC,hE,hF,hM,qS,hf,c1]
 | (with_reducible refine CU (xX _) ?_)
 | (with_reducible refine aH hQ ?_;simp only [aA,aB,Option.some.injEq,exists_eq_left',go_sem,hC,hE,hF,hM];repeat' (first | exact Ok.out | with_reducible refine aJ ?_ ?_ | (simp;done))))
  ·simp only [c1,Bool.false_eq_true,if_false]at h2
   subst h2
   repeat' (first
 | simp only [go_sem,hC,hE,hF,hM,qS,hf,c1]
 | (with_reducible refine CU (xX _) ?_)
 | (with_reducible refine aH hQ ?_;simp only [aA,aB,Option.some.injEq,exists_eq_left',go_sem,hC,hE,hF,hM];repeat' (first | exact Ok.out | with_reducible refine aJ ?_ ?_ | (simp;done))))
 | cons a rest=>
  obtain⟨hE,g2,hC,g4⟩:=drop_cons h1
  have bS:k<4611686018427387904:=by omega
  have Eb:a.s∈Sm.dH f.body:=by rw [← vE];exact List.mem_map_of_mem (List.mem_of_getElem? hE)
  have xM:=fun s=>ql (l:=a.s.labels) (by have:=He ho xV Eb;omega) label s
  simp only [List.map_cons,qo]at h2
  rcases Bool.eq_false_or_eq_true (eH a.s.labels label)with c1 | c1
  ·simp only [c1,if_true]at h2
   subst h2
   repeat' (first
 | simp only [go_sem,hC,hE,hF,hM,c1]
 | (with_reducible refine CU (xM _) ?_)
 | (with_reducible refine aH hQ ?_;simp only [aA,aB,Option.some.injEq,exists_eq_left',go_sem,hC,hE,hF,hM];repeat' (first | exact Ok.out | with_reducible refine aJ ?_ ?_ | (simp;done))))
  ·simp only [c1,Bool.false_eq_true,if_false]at h2
   repeat' (first
 | simp only [go_sem,hC,hE,hF,hM,c1]
 | (with_reducible refine CU (xM _) ?_)
 | (with_reducible refine aH hQ ?_;simp only [aA,aB,Option.some.injEq,exists_eq_left',go_sem,hC,hE,hF,hM];repeat' (first | exact Ok.out | with_reducible refine aJ ?_ ?_ | (simp;done))))
   refine dV 0 0 ?_ ?_ (IH (rest,k+1) ⟨g2,h2⟩ (Nat.lt_succ_self _))
   ·(simp only [go_sem,hC,hE,hF,hM,aP bS];try exact bR)
   ·(simp only [go_sem,hC,hE,hF,hM,aP bS];try exact bR)
theorem Xe {p:Pg} (ho:p.kc) (hb:p.may=true) {i:Nat} {f:Pc} (hf:p.procs[i]? = some f) (m:Im) (hm:m.proc=(i:Int)) (s:St) :
 aD Tryz.prog tt [.dD (gM p) 0, .agg (eC m)] s (.bool (Ci f.labels m.s m.loop)) s:=by
 refine aD.pure ?_ (by simp [D.bT,D.ok,xg,Mp]) rfl s
 have sn:=fun s=>al7 ho hb hf m.s.name s
 have aaz:=Ep f.fin m.s.name (Sm.dH f.body)
 rw [← hm]at sn
 obtain⟨A,hA⟩ : ∃ A,qo f.fin m.s.name (Sm.dH f.body)=A:=⟨_,rfl⟩
 rw [hA]at sn aaz
 obtain⟨R,hR⟩ : ∃ R,Ci f.labels m.s m.loop=R:=⟨_,rfl⟩
 rw [hR]
 unfold Ci Pc.labels at hR
 unfold S0
 rcases Bool.eq_false_or_eq_true (m.s.kind==7)with c1 | c1
 ·simp only [c1,Bool.true_or,if_true]at hR
  subst hR
  refine aD.go oa rfl fun B Q hB hQ=> ?_
  have⟨hC,hE,hF,hM⟩:=bL
  repeat' (first
 | simp only [go_sem,hC,hE,hF,hM,c1]
 | (with_reducible refine aH hQ ?_;simp only [aA,aB,Option.some.injEq,exists_eq_left',go_sem,hC,hE,hF,hM];repeat' (first | exact Ok.out | with_reducible refine aJ ?_ ?_ | (simp;done))))
 rcases Bool.eq_false_or_eq_true (m.s.kind==8)with c2 | c2
 ·simp only [c1,c2,Bool.or_true,if_true]at hR
  subst hR
  refine aD.go oa rfl fun B Q hB hQ=> ?_
  have⟨hC,hE,hF,hM⟩:=bL
  repeat' (first
 | simp only [go_sem,hC,hE,hF,hM,c1,c2]
 | (with_reducible refine aH hQ ?_;simp only [aA,aB,Option.some.injEq,exists_eq_left',go_sem,hC,hE,hF,hM];repeat' (first | exact Ok.out | with_reducible refine aJ ?_ ?_ | (simp;done))))
 rcases Bool.eq_false_or_eq_true (m.s.kind==10)with c3 | c3
 ·simp only [c1,c2,c3,Bool.or_self,Bool.false_eq_true,if_false,if_true, ← aaz]at hR
  subst hR
  refine aD.go oa rfl fun B Q hB hQ=> ?_
  have⟨hC,hE,hF,hM⟩:=bL
  repeat' (first
 | simp only [go_sem,hC,hE,hF,hM,c1,c2,c3]
 | (with_reducible refine CU (sn _) ?_)
 | (with_reducible refine aH hQ ?_;simp only [aA,aB,Option.some.injEq,exists_eq_left',go_sem,hC,hE,hF,hM];repeat' (first | exact Ok.out | with_reducible refine aJ ?_ ?_ | (simp;done))))
 ·simp only [c1,c2,c3,Bool.or_self,Bool.false_eq_true,if_false]at hR
  subst hR
  refine aD.go oa rfl fun B Q hB hQ=> ?_
  have⟨hC,hE,hF,hM⟩:=bL
  repeat' (first
 | simp only [go_sem,hC,hE,hF,hM,c1,c2,c3]
 | (with_reducible refine aH hQ ?_;simp only [aA,aB,Option.some.injEq,exists_eq_left',go_sem,hC,hE,hF,hM];repeat' (first | exact Ok.out | with_reducible refine aJ ?_ ?_ | (simp;done))))
end Go.Abs

/-! Jm3 -/

namespace Go.Abs
set_option maxRecDepth 8000
open Go.Proofs
theorem Xf {p:Pg} (h:p.kc) (mw:(p.scope.1==0)=true) (s:St):aD Tryz.prog pZ [.agg (cB p)] s (.dD (gM p) 0) s:=by
 refine aD.pure ?_ (by simp [D.bT,D.ok,jC]) (by simp [D.ok,xg]) s
 obtain⟨sj,sB,xU⟩:=h.procs
 have si:=fun s=>tM h s
 have dS:=fun s=>BT (p:=p) (by omega) s
 have b0:(p.scope.1 != 0) = !(p.scope.1==0):=rfl
 rw [mw]at b0
 unfold S0
 refine aD.go vY rfl fun B Q hB hQ=> ?_
 have⟨hC,hE,hF,hM⟩:=bL
 repeat' (first
 | simp only [go_sem,hC,hE,hF,hM,b0,Bool.not_true]
 | (with_reducible refine CU (si _) ?_)
 | (with_reducible refine CU (dS _) ?_)
 | (with_reducible refine aH hQ ?_;simp only [aA,aB,Option.some.injEq,exists_eq_left',go_sem,hC,hE,hF,hM];repeat' (first | exact Ok.out | with_reducible refine aJ ?_ ?_ | (simp;done))))
theorem Xg {p:Pg} (h:p.kc) (mw:(p.scope.1==0)=false) (s:St):aD Tryz.prog pZ [.agg (cB p)] s .eM s:=by
 refine aD.pure ?_ (by simp [D.bT,D.ok,jC]) rfl s
 have si:=fun s=>tM h s
 have b0:(p.scope.1 != 0) = !(p.scope.1==0):=rfl
 rw [mw]at b0
 unfold S0
 refine aD.go vY rfl fun B Q hB hQ=> ?_
 have⟨hC,hE,hF,hM⟩:=bL
 repeat' (first
 | simp only [go_sem,hC,hE,hF,hM,b0,Bool.not_false]
 | (with_reducible refine CU (si _) ?_)
 | (with_reducible refine aH hQ ?_;simp only [aA,aB,Option.some.injEq,exists_eq_left',go_sem,hC,hE,hF,hM];repeat' (first | exact Ok.out | with_reducible refine aJ ?_ ?_ | (simp;done))))
mutual
theorem Tn {pr up next loop:Int} : ∀ (s:Sm) (m:Im),m∈s.wE pr up next loop→m.proc=pr
 | ⟨id,kind,labels,name,pc,x,has,args,a7,aX⟩,m,h=>by
  simp only [Sm.wE]at h
  rcases List.mem_cons.1 h with rfl | h
  ·rfl
  ·rcases List.mem_append.1 h with h | h
   ·exact uX a7 m h
   ·exact uX aX m h
theorem uX {pr up next loop:Int} : ∀ (l:List Sm) (m:Im),m∈Sm.kD pr up next loop l→m.proc=pr
 | s::l,m,h=>by
  simp only [Sm.kD]at h
  rcases List.mem_append.1 h with h | h
  ·exact Tn s m h
  ·exact uX l m h
end
theorem vI : ∀ a b:List Sm,iD (a++b)=iD a++iD b
 | [],b=>rfl
 | v::a,b=>by simp only [List.cons_append,iD,vI a b,List.append_assoc]
mutual
theorem IF : ∀ s:Sm,(iD s.pre).length≤s.size
 | ⟨id,kind,labels,name,pc,x,has,args,a7,aX⟩=>by
  have:=qp a7;have:=qp aX
  simp only [Sm.pre,iD,vI,List.length_append,Sm.size];omega
theorem qp : ∀ l:List Sm,(iD (Sm.dH l)).length≤Sm.aR l
 | []=>Nat.le_refl _
 | s::l=>by
  have:=IF s;have:=qp l
  simp only [Sm.dH,vI,List.length_append,Sm.aR];omega
end
theorem PJ (seen l:List ay):(je seen l).1.length≤seen.length+l.length:=(Eo l seen).2
theorem Tp {p:Pg} (h:p.kc) (s:St):aD Tryz.prog tp [.agg (cB p)] s (.agg [.int .i64 p.jump.1, .int .i64 p.jump.2]) s:=by
 refine aD.pure ?_ (by simp [D.bT,D.ok,jC]) rfl s
 obtain⟨sj,sB,xU⟩:=h.procs
 obtain⟨R,hR⟩ : ∃ R,p.jump=R:=⟨_,rfl⟩
 rw [hR]
 unfold Pg.jump at hR
 unfold S0
 rcases Bool.eq_false_or_eq_true (p.scope.1==0)with mw | mw
 case inr=>
  have hs:=fun s=>Xg h mw s
  simp only [mw,Bool.false_eq_true,if_false]at hR
  subst hR
  refine aD.go vW rfl fun B Q hB hQ=> ?_
  have⟨hC,hE,hF,hM⟩:=bL
  repeat' (first
 | simp only [go_sem,hC,hE,hF,hM]
 | (with_reducible refine CU (hs _) ?_)
 | (with_reducible refine aH hQ ?_;simp only [aA,aB,Option.some.injEq,exists_eq_left',go_sem,hC,hE,hF,hM];repeat' (first | exact Ok.out | with_reducible refine aJ ?_ ?_ | (simp;done))))
 have hs:=fun s=>Xf h mw s
 have hb:=Ed mw
 simp only [mw,if_true]at hR
 refine aD.go vW rfl fun B Q hB hQ=> ?_
 have⟨hC,hE,hF,hM⟩:=bL
 repeat' (first
 | simp only [go_sem,hC,hE,hF,hM]
 | (with_reducible refine CU (hs _) ?_)
 | (with_reducible refine aH hQ ?_;simp only [aA,aB,Option.some.injEq,exists_eq_left',go_sem,hC,hE,hF,hM];repeat' (first | exact Ok.out | with_reducible refine aJ ?_ ?_ | (simp;done))))
 refine dc 2 0 (bw.ind (ι:=List Pc×Nat) (fun i=>p.procs.drop i.2=i.1∧oV 7 (xw i.1)=R) (fun i=>i.1.length)
  (fun i=> [(1, .ptr 0 0),(2, .ptr 1 0),(3, .dD (gM p) 0),(16, .slice .shared 5 (p.procs.map cL)),(17, .int .i64 (p.procs.length:Int)),(18, .int .i64 (i.2:Int))]) (fun i=>⟨[cB p,[.int .i64 0, .int .i64 0]],[]⟩) ?_ (p.procs,0) ⟨rfl,hR⟩)
 clear hR
 rintro⟨rest,k⟩ ⟨h1,hR⟩ IH
 dsimp only at h1 hR
 cases rest with
 | nil=>
  have hC:=drop_nil h1
  simp only [xw,oV]at hR
  subst hR
  repeat' (first
 | simp only [go_sem,hC,hE,hF,hM]
 | (with_reducible refine aH hQ ?_;simp only [aA,aB,Option.some.injEq,exists_eq_left',go_sem,hC,hE,hF,hM];repeat' (first | exact Ok.out | with_reducible refine aJ ?_ ?_ | (simp;done))))
 | cons f rest=>
  obtain⟨hE,g2,hC,g4⟩:=drop_cons h1
  have bS:k<4611686018427387904:=by omega
  have xV:=List.mem_of_getElem? hE
  have B7:=fun s=>aax hb hE (by omega) s
  have vE:=wF (k:Int) 0 (-1) 0 f.body
  have Af:=Tk (k:Int) f
  have Mn:=fun m=>uX (pr:=(k:Int)) (up:=0) (next:= -1) (loop:=0) f.body m
  have Hf:=Cj h xV
  have al8:=Er h xV
  have aaA:(iD (Sm.dH f.body)).length≤900000:=by
   have h1:=qp f.body
   have h2:=Pc.cd xV
   simp only [Pc.size]at h2
   omega
  rw [← vE]at aaA
  generalize hI:Sm.kD (k:Int) 0 (-1) 0 f.body=I at *
  have hIl:I.length≤900000:=by rw [← vE,List.length_map]at Hf;exact Hf
  simp only [xw, ← Af]at hR
  obtain⟨J,hJ⟩ : ∃ J,zB f.labels f.fin [] (I.map Im.pair)=J:=⟨_,rfl⟩
  rw [hJ]at hR
  have hld:=fun(m:Im) (hm:m∈I) s=>Xe h hb hE m (Mn m hm) s
  repeat' (first
 | simp only [go_sem,hC,hE,hF,hM]
 | (with_reducible refine CU (B7 _) ?_)
 | (with_reducible refine aH hQ ?_;simp only [aA,aB,Option.some.injEq,exists_eq_left',go_sem,hC,hE,hF,hM];repeat' (first | exact Ok.out | with_reducible refine aJ ?_ ?_ | (simp;done))))
  refine bw.pf 6 1 rfl ?_
  simp only [go_sem,hC,hE,hF,hM]
  refine dc 3 1 (bw.ind (ι:=List Im×Nat×List ay×Nat) (fun i=>I.drop i.2.1=i.1∧zB f.labels f.fin i.2.2.1 (i.1.map Im.pair)=J∧i.2.2.2=i.2.2.1.length∧i.2.2.1.length+(iD (i.1.map Im.s)).length≤900000) (fun i=>i.1.length)
   (fun i=> [(1, .ptr 0 0),(2, .ptr 1 0),(3, .dD (gM p) 0),(5, .ptr 2 0),(6, .slice (.tok 0) 1 (i.2.2.1.map encStr)),(16, .slice .shared 5 (p.procs.map cL)),(17, .int .i64 (p.procs.length:Int)),(18, .int .i64 (k:Int)),
    (25, .slice .shared 17 (I.map eC)),(26, .int .i64 (I.length:Int)),(27, .int .i64 (i.2.1:Int))]) (fun i=>⟨[cB p,[.int .i64 0, .int .i64 0],cL f],[some i.2.2.2]⟩) ?_ (I,0,[],0) ⟨rfl,hJ,rfl,by simpa using aaA⟩)
  clear hJ
  rintro⟨uV,k2,seen,n2⟩ ⟨j1,j2,j3,j4⟩ Pb
  dsimp only at j1 j2 j3 j4
  subst j3
  cases uV with
  | nil=>
   have MA:=drop_nil j1
   simp only [List.map_nil,zB]at j2
   simp only [List.map_nil,iD,List.length_nil,Nat.add_zero]at j4
   have Es:=fun {s:St} {t:Nat} (ht:s.aC[t]? = some (some seen.length))=>PH (seen:=seen) (l:=f.fin) (by omega) ht
   obtain⟨P1,hP1⟩ : ∃ P1,je seen f.fin=P1:=⟨_,rfl⟩
   rw [hP1]at j2 Es
   rcases Bool.eq_false_or_eq_true P1.2 with c1 | c1
   ·simp only [c1,if_true]at j2
    subst j2
    simp only at hR
    repeat' (first
 | simp only [go_sem,hC,hE,hF,hM,MA,c1,Bool.not_true]
 | (with_reducible refine CU (Es (by with_unfolding_all rfl)) ?_)
 | (with_reducible refine aH hQ ?_;simp only [aA,aB,Option.some.injEq,exists_eq_left',go_sem,hC,hE,hF,hM];repeat' (first | exact Ok.out | with_reducible refine aJ ?_ ?_ | (simp;done))))
    refine dV 2 0 ?_ ?_ (IH (rest,k+1) ⟨g2,hR⟩ (Nat.lt_succ_self _))
    ·(simp only [go_sem,hC,hE,hF,hM,aP bS];try exact bR)
    ·(simp only [go_sem,hC,hE,hF,hM,aP bS];try exact bR)
   ·simp only [c1,Bool.false_eq_true,if_false]at j2
    subst j2
    simp only [oV]at hR
    subst hR
    repeat' (first
 | simp only [go_sem,hC,hE,hF,hM,MA,c1,Bool.not_false]
 | (with_reducible refine CU (Es (by with_unfolding_all rfl)) ?_)
 | (with_reducible refine aH hQ ?_;simp only [aA,aB,Option.some.injEq,exists_eq_left',go_sem,hC,hE,hF,hM];repeat' (first | exact Ok.out | with_reducible refine aJ ?_ ?_ | (simp;done))))
  | cons m uV=>
   obtain⟨nZ,j5,wB,j6⟩:=drop_cons j1
   have rO:k2<4611686018427387904:=by omega
   have hmm:=List.mem_of_getElem? nZ
   have VB:=fun s=>hld m hmm s
   simp only [List.map_cons,Im.pair,zB]at j2
   simp only [List.map_cons,iD,List.length_append]at j4
   have Es:=fun {s:St} {t:Nat} (ht:s.aC[t]? = some (some seen.length))=>PH (seen:=seen) (l:=m.s.labels) (by omega) ht
   have UI:=PJ seen m.s.labels
   obtain⟨P1,hP1⟩ : ∃ P1,je seen m.s.labels=P1:=⟨_,rfl⟩
   rw [hP1]at j2 Es UI
   rcases Bool.eq_false_or_eq_true P1.2 with c1 | c1
   ·rcases Bool.eq_false_or_eq_true (Ci f.labels m.s m.loop)with c2 | c2
    ·simp only [c1,c2,if_true]at j2
     repeat' (first
 | simp only [go_sem,hC,hE,hF,hM,nZ,wB,c1,c2,Bool.not_true]
 | (with_reducible refine CU (Es (by with_unfolding_all rfl)) ?_)
 | (with_reducible refine CU (VB _) ?_)
 | (with_reducible refine aH hQ ?_;simp only [aA,aB,Option.some.injEq,exists_eq_left',go_sem,hC,hE,hF,hM];repeat' (first | exact Ok.out | with_reducible refine aJ ?_ ?_ | (simp;done))))
     refine dV 3 1 ?_ ?_ (Pb (uV,k2+1,P1.1,P1.1.length) ⟨j5,j2,rfl,by dsimp only;omega⟩ (Nat.lt_succ_self _))
     ·(simp only [go_sem,hC,hE,hF,hM,aP rO];try exact bR)
     ·(simp only [go_sem,hC,hE,hF,hM,aP rO];try exact bR)
    ·simp only [c1,c2,if_true,Bool.false_eq_true,if_false]at j2
     subst j2
     simp only [oV]at hR
     subst hR
     repeat' (first
 | simp only [go_sem,hC,hE,hF,hM,nZ,wB,c1,c2,Bool.not_true,Bool.not_false]
 | (with_reducible refine CU (Es (by with_unfolding_all rfl)) ?_)
 | (with_reducible refine CU (VB _) ?_)
 | (with_reducible refine aH hQ ?_;simp only [aA,aB,Option.some.injEq,exists_eq_left',go_sem,hC,hE,hF,hM];repeat' (first | exact Ok.out | with_reducible refine aJ ?_ ?_ | (simp;done))))
   ·simp only [c1,Bool.false_eq_true,if_false]at j2
    subst j2
    simp only [oV]at hR
    subst hR
    repeat' (first
 | simp only [go_sem,hC,hE,hF,hM,nZ,wB,c1,Bool.not_false]
 | (with_reducible refine CU (Es (by with_unfolding_all rfl)) ?_)
 | (with_reducible refine CU (VB _) ?_)
 | (with_reducible refine aH hQ ?_;simp only [aA,aB,Option.some.injEq,exists_eq_left',go_sem,hC,hE,hF,hM];repeat' (first | exact Ok.out | with_reducible refine aJ ?_ ?_ | (simp;done))))
end Go.Abs

/-! Rj1 -/

namespace Go.Abs
set_option maxRecDepth 8000
open Go.Proofs
theorem Tq (x:It):(iL x)[2]? = some (.slice .shared 1 (x.s.labels.map encStr)):=nd rfl
theorem PK (x:It):(iL x)[14]? = some (.int .i64 x.b5):=nd rfl
attribute [go_sem] Tq PK
end Go.Abs

/-! Rj2 -/

namespace Go.Abs
set_option maxRecDepth 8000
open Go.Proofs
end Go.Abs

/-! Swap0 -/

namespace Go.Abs
def Ai (a b t:ay):ay:=if t==a then b else if t==b then a else t
mutual
def Ex.swap (a b:ay):Ex→Ex
 | ⟨op,n,name,kids⟩=>⟨op,n,Ai a b name,Ex.uY a b kids⟩
def Ex.uY (a b:ay):List Ex→List Ex
 | []=> []
 | x::l=>x.swap a b::Ex.uY a b l
end
def Ar.swap (a b:ay) (x:Ar):Ar:=⟨x.ref,Ai a b x.name,x.x.swap a b⟩
mutual
def Sm.swap (a b:ay):Sm→Sm
 | ⟨id,kind,labels,name,proc,x,has,args,a7,aX⟩=>⟨id,kind,labels.map (Ai a b),Ai a b name,Ai a b proc,x.swap a b,has,args.map (Ar.swap a b),Sm.uY a b a7,Sm.uY a b aX⟩
def Sm.uY (a b:ay):List Sm→List Sm
 | []=> []
 | s::l=>s.swap a b::Sm.uY a b l
end
def Pm.swap (a b:ay) (x:Pm):Pm:=⟨Ai a b x.name,x.ref⟩
def Pc.swap (a b:ay) (f:Pc):Pc:=⟨Ai a b f.name,f.params.map (Pm.swap a b),f.vars.map (Ai a b),Sm.uY a b f.body,f.fin.map (Ai a b)⟩
def Pg.swap (a b:ay) (p:Pg):Pg:=⟨p.globals.map (Ai a b),p.procs.map (Pc.swap a b)⟩
end Go.Abs

/-! Swap2p -/

namespace Go.Abs
def It.swap (a b:ay) (i:It):It:=⟨i.s.swap a b,i.deep,i.b5,i.aX⟩
end Go.Abs

/-! ToP -/

namespace Go.Abs
def VH:List Sm→List ay
 | []=> []
 | v::l=>v.said++VH l
def adV (p:Pg):List ay→List ay
 | []=> []
 | n::l=>VH (rS p n)++adV p l
end Go.Abs

/-! Al1 -/

namespace Go.Abs
set_option maxRecDepth 8000
open Go.Proofs
def oi (nm:ay) (T:List ay) (seen:List ay):List Ar→Bool
 | []=>true
 | a::l=>if a.ref then(if eH seen a.name || (a.name==nm || eH T a.name)then false else oi nm T (seen++ [a.name]) l)else oi nm T seen l
def apM (T:List ay) (seen:List ay):List Ar→Bool
 | []=>true
 | a::l=>if a.ref then(if eH seen a.name || eH T a.name then false else apM T (seen++ [a.name]) l)else apM T seen l
def Sm.ama (v:Sm):List ay:=if v.name != []then [v.name]else []
theorem Tr {v:Sm} (zY:v.args.length<1000000000) {T:List ay} (hT:T.length<4611686018427387904) (s:St) :
 aD Tryz.prog qN [.agg (bh v), .slice .shared 1 (T.map encStr)] s (.bool (oi v.name T [] v.args)) s:=by
 refine aD.pure ?_ (by simp [D.bT,D.ok,mC,Tag.ok,eI]) rfl s
 generalize hR:oi v.name T [] v.args=R
 have VI:=fun x s=>ql hT x s
 unfold S0
 refine aD.go AP rfl fun B Q hB hQ=> ?_
 have⟨hC,hE,hF,hM⟩:=bL
 repeat' (first
 | simp only [go_sem,hC,hE,hF,hM]
 | (with_reducible refine aH hQ ?_;simp only [aA,aB,Option.some.injEq,exists_eq_left',go_sem,hC,hE,hF,hM];repeat' (first | exact Ok.out | with_reducible refine aJ ?_ ?_ | (simp;done))))
 refine bw.pf 5 1 rfl ?_
 simp only [go_sem,hC,hE,hF,hM]
 refine dc 1 1 (bw.ind (ι:=List Ar×Nat×List ay×Nat) (fun i=>v.args.drop i.2.1=i.1∧oi v.name T i.2.2.1 i.1=R∧i.2.2.1.length≤i.2.1∧i.2.2.2=i.2.2.1.length) (fun i=>i.1.length)
  (fun i=> [(1, .slice .shared 1 (T.map encStr)),(2, .ptr 0 0),(5, .slice (.tok 0) 1 (i.2.2.1.map encStr)),(9, .slice .shared 6 (v.args.map ek)),(10, .int .i64 (v.args.length:Int)),(11, .int .i64 (i.2.1:Int))]) (fun i=>⟨[bh v],[some i.2.2.2]⟩) ?_ (v.args,0,[],0) ⟨rfl,hR,Nat.le_refl _,rfl⟩)
 clear hR
 rintro⟨rest,k,seen,n'⟩ ⟨h1,h2,h3,h4⟩ IH
 dsimp only at h1 h2 h3 h4
 subst h4
 cases rest with
 | nil=>
  have hC:=drop_nil h1
  simp only [oi]at h2
  subst h2
  repeat' (first
 | simp only [go_sem,hC,hE,hF,hM]
 | (with_reducible refine aH hQ ?_;simp only [aA,aB,Option.some.injEq,exists_eq_left',go_sem,hC,hE,hF,hM];repeat' (first | exact Ok.out | with_reducible refine aJ ?_ ?_ | (simp;done))))
 | cons a rest=>
  obtain⟨hE,g2,hC,g4⟩:=drop_cons h1
  have bS:k<4611686018427387904:=by omega
  have hF:(seen.length+1)*17≤bQ:=by unfold bQ;omega
  have pT:=fun g s=>iB (l:=seen) (by omega) a.name g s
  simp only [oi]at h2
  rcases Bool.eq_false_or_eq_true a.ref with c1 | c1
  case inr=>
   simp only [c1,Bool.false_eq_true,if_false]at h2
   repeat' (first
 | simp only [go_sem,hC,hE,hF,hM,c1,Bool.not_false]
 | (with_reducible refine aH hQ ?_;simp only [aA,aB,Option.some.injEq,exists_eq_left',go_sem,hC,hE,hF,hM];repeat' (first | exact Ok.out | with_reducible refine aJ ?_ ?_ | (simp;done))))
   refine dV 1 1 ?_ ?_ (IH (rest,k+1,seen,_) ⟨g2,h2,by dsimp only;omega,rfl⟩ (Nat.lt_succ_self _))
   ·(simp only [go_sem,hC,hE,hF,hM,aP bS];try exact bR)
   ·(simp only [go_sem,hC,hE,hF,hM,aP bS];try exact bR)
  simp only [c1,if_true]at h2
  rcases Bool.eq_false_or_eq_true (eH seen a.name)with c2 | c2
  ·simp only [c2,Bool.true_or,if_true]at h2
   subst h2
   repeat' (first
 | simp only [go_sem,hC,hE,hF,hM,c1,c2,Bool.not_true]
 | (with_reducible refine CU (pT _ _) ?_)
 | (with_reducible refine CU (VI _ _) ?_)
 | (with_reducible refine aH hQ ?_;simp only [aA,aB,Option.some.injEq,exists_eq_left',go_sem,hC,hE,hF,hM];repeat' (first | exact Ok.out | with_reducible refine aJ ?_ ?_ | (simp;done))))
  rcases Bool.eq_false_or_eq_true (a.name==v.name)with c3 | c3
  ·simp only [c2,c3,Bool.false_or,Bool.true_or,if_true]at h2
   subst h2
   repeat' (first
 | simp only [go_sem,hC,hE,hF,hM,c1,c2,c3,Bool.not_true]
 | (with_reducible refine CU (pT _ _) ?_)
 | (with_reducible refine CU (VI _ _) ?_)
 | (with_reducible refine aH hQ ?_;simp only [aA,aB,Option.some.injEq,exists_eq_left',go_sem,hC,hE,hF,hM];repeat' (first | exact Ok.out | with_reducible refine aJ ?_ ?_ | (simp;done))))
  rcases Bool.eq_false_or_eq_true (eH T a.name)with c4 | c4
  ·simp only [c2,c3,c4,Bool.false_or,if_true]at h2
   subst h2
   repeat' (first
 | simp only [go_sem,hC,hE,hF,hM,c1,c2,c3,c4,Bool.not_true]
 | (with_reducible refine CU (pT _ _) ?_)
 | (with_reducible refine CU (VI _ _) ?_)
 | (with_reducible refine aH hQ ?_;simp only [aA,aB,Option.some.injEq,exists_eq_left',go_sem,hC,hE,hF,hM];repeat' (first | exact Ok.out | with_reducible refine aJ ?_ ?_ | (simp;done))))
  ·simp only [c2,c3,c4,Bool.false_or,Bool.false_eq_true,if_false]at h2
   repeat' (first
 | simp only [go_sem,hC,hE,hF,hM,c1,c2,c3,c4,Bool.not_true]
 | (with_reducible refine CU (pT _ _) ?_)
 | (with_reducible refine CU (VI _ _) ?_)
 | (with_reducible refine aH hQ ?_;simp only [aA,aB,Option.some.injEq,exists_eq_left',go_sem,hC,hE,hF,hM];repeat' (first | exact Ok.out | with_reducible refine aJ ?_ ?_ | (simp;done))))
   refine dV 1 1 ?_ ?_ (IH (rest,k+1,seen++ [a.name],seen.length+1) ⟨g2,h2,by simp;omega,by simp⟩ (Nat.lt_succ_self _))
   ·(simp only [go_sem,hC,hE,hF,hM,aP bS,List.map_append,List.map_cons,List.map_nil,encStr];try exact bR)
   ·(simp only [go_sem,hC,hE,hF,hM,aP bS,List.map_append,List.map_cons,List.map_nil,encStr];try exact bR)
def mf (p:Pg):List Pc→List D
 | []=> []
 | f::l=> .str f.name:: .slice .shared 1 ((p.oT f.name).map encStr)::mf p l
theorem PN (p:Pg) : ∀ l,D.bT 0 0 (mf p l)=true
 | []=>rfl
 | f::l=>by simp only [mf,D.bT,D.ok,Tag.ok,eI,PN p l];rfl
theorem Xh (n m:Nat) (p:Pg) (l:List Pc):D.gE n m (mf p l)=mf p l:=gT n m _ (PN p l)
attribute [go_sem] Xh
theorem Hg (p:Pg) : ∀ l m,mf p (l++m)=mf p l++mf p m
 | [],m=>rfl
 | f::l,m=>by simp only [List.cons_append,mf,Hg p l m]
theorem Hh {p:Pg} {nm:ay} {d:D} : ∀ {l:List Pc},nm∉l.map (·.name)→vd nm d (mf p l)=some (mf p l++ [.str nm,d])
 | [],_=>rfl
 | f::l,h=>by
  simp only [List.map_cons,List.mem_cons,not_or]at h
  have:(f.name==nm)=false:=by simpa using fun e=>h.1 e.symm
  simp only [mf,vd,this,Bool.false_eq_true,if_false,Hh h.2,List.cons_append]
theorem Hi {p:Pg} {nm:ay} {z:D} : ∀ {l:List Pc} {f:Pc},jW nm l=some f→wP nm z (mf p l)=some (.slice .shared 1 ((p.oT nm).map encStr))
 | g::l,f,h=>by
  simp only [jW]at h
  simp only [mf,wP]
  split at h
  ·rename_i e
   rw [if_pos e,eq_of_beq e]
  ·rename_i e
   rw [if_neg e]
   exact Hi h
theorem Xi (l:List ay) : ∀ (s:List ay),Ae s l=false→∀ a x b,l=a++x::b→x∉s++a:=by
 induction l with
 | nil=>intro s _ a x b e;cases a <;> cases e
 | cons y l ih=>
  intro s h a x b e
  simp only [Ae]at h
  split at h
  ·cases h
  ·rename_i hy
   cases a with
   | nil=>cases e;simpa [← iX]using hy
   | cons z a=>
    cases e
    have:=ih (s++ [y]) h a x b rfl
    simpa using this
end Go.Abs

/-! Al2 -/

namespace Go.Abs
set_option maxRecDepth 8000
open Go.Proofs
theorem Ts {p:Pg} (h:(p.arity.1==0)=true):(p.scope.1==0)=true∧∀ v∈p.pre,(v.kind==4)=true→v.rf p=true:=by
 unfold Pg.arity at h
 split at h
 ·rename_i e
  refine⟨e,fun v hv hk=> ?_⟩
  have : ∀ l:List Sm,((lh 6 (Cb p l)).1==0)=true→∀ v∈l,(v.kind==4)=true→v.rf p=true:=by
   intro l
   induction l with
   | nil=>intro _ v m;cases m
   | cons a l ih=>
    intro h v m hk
    simp only [Cb]at h
    split at h
    ·cases h
    ·rename_i c
     rcases List.mem_cons.1 m with rfl | m
     ·simpa [hk]using c
     ·exact ih h v m hk
  exact this _ h v hv hk
 ·cases h
theorem PO {p:Pg} {v:Sm} (h:v.rf p=true) : ∃ f,p.find v.proc=some f:=by
 unfold Sm.rf at h
 cases e:p.find v.proc with
 | some f=>exact⟨f,rfl⟩
 | none=>rw [e]at h;simp at h
def Sm.Jq (p:Pg) (v:Sm):Bool:=oi v.name (p.oT v.proc) [] v.args
def Hj (p:Pg):List Sm→Option Sm
 | []=>none
 | v::l=>if v.kind==4 && !(v.Jq p)then some v else Hj p l
def Pg.alias (p:Pg):Int×Int:=if p.arity.1==0 then lh 8 (Hj p p.pre)else(1,0)
theorem Hk {p:Pg} (h:p.kc) (nm:ay):(p.oT nm).length<4611686018427387904:=by
 unfold Pg.oT
 cases hs:p.xn nm with
 | none=>dsimp only;decide
 | some f=>
  obtain⟨mw,hf⟩:=En hs
  have h1:=(Hc mw hf).len
  have h2:=h.procs
  have h3:=(xq h (jd (p.work nm)) []).2
  have h4:(jd (p.work nm)).length*1800000≤900000*1800000:=Nat.mul_le_mul_right _ (by omega)
  have h5:(jd (p.qV nm)).length≤(p.qV nm).length:=uT _ _ (sU (lk _).1) fun x m=>((lk _).2 x).1 m
  dsimp only
  unfold Pg.qV at *
  simp only [List.length_nil]at h3
  omega
theorem MC {v:Sm} (hv:v.oR):v.args.length<1000000000:=by have:=Ar.c9 v.args;have:=hv.2.2;omega
theorem PQ {p:Pg} (h:p.kc) (s:St):aD Tryz.prog r8 [.agg (cB p)] s (.agg [.int .i64 p.alias.1, .int .i64 p.alias.2]) s:=by
 refine aD.pure ?_ (by simp [D.bT,D.ok,jC]) rfl s
 obtain⟨sj,sB,xU⟩:=h.procs
 have si:=fun s=>G5 h s
 have dS:=fun s=>BT (p:=p) (by omega) s
 have hL:=(pE p).1
 have hll:=pF p
 generalize hR:p.alias=R
 simp only [Pg.alias]at hR
 unfold S0
 have b0:(p.arity.1 != 0) = !(p.arity.1==0):=rfl
 rcases Bool.eq_false_or_eq_true (p.arity.1==0)with b1 | b1
 case inr=>
  rw [b1]at b0
  simp only [b1,Bool.false_eq_true,if_false]at hR
  subst hR
  refine aD.go uH rfl fun B Q hB hQ=> ?_
  have⟨hC,hE,hF,hM⟩:=bL
  repeat' (first
 | simp only [go_sem,hC,hE,hF,hM,b0,Bool.not_false]
 | (with_reducible refine CU (si _) ?_)
 | (with_reducible refine aH hQ ?_;simp only [aA,aB,Option.some.injEq,exists_eq_left',go_sem,hC,hE,hF,hM];repeat' (first | exact Ok.out | with_reducible refine aJ ?_ ?_ | (simp;done))))
 rw [b1]at b0
 obtain⟨mw,kq⟩:=Ts b1
 have htw:=(Ha mw).2.1
 simp only [b1,if_true, ← hL]at hR
 refine aD.go uH rfl fun B Q hB hQ=> ?_
 have⟨hC,hE,hF,hM⟩:=bL
 repeat' (first
 | simp only [go_sem,hC,hE,hF,hM,b0,Bool.not_true]
 | (with_reducible refine CU (si _) ?_)
 | (with_reducible refine aH hQ ?_;simp only [aA,aB,Option.some.injEq,exists_eq_left',go_sem,hC,hE,hF,hM];repeat' (first | exact Ok.out | with_reducible refine aJ ?_ ?_ | (simp;done))))
 refine dV 3 0 ?_ ?_ (bw.ind (ι:=List Pc×Nat×List Pc) (fun i=>p.procs.drop i.2.1=i.1∧p.procs=i.2.2++i.1) (fun i=>i.1.length)
  (fun i=> [(1, .ptr 0 0),(2, .ptr 1 0),(3, .fZ 2),(15, .slice .shared 5 (p.procs.map cL)),(16, .int .i64 (p.procs.length:Int)),(17, .int .i64 (i.2.1:Int))]) (fun i=>⟨[cB p,[.int .i64 0, .int .i64 0],mf p i.2.2],[]⟩) ?_ (p.procs,0,[]) ⟨rfl,rfl⟩)
 ·(simp only [go_sem,hC,hE,hF,hM,mf];try exact bR)
 ·(simp only [go_sem,hC,hE,hF,hM,mf];try exact bR)
 rintro⟨rest,k,done⟩ ⟨h1,h2⟩ IH
 dsimp only at h1 h2
 cases rest with
 | cons a rest=>
  obtain⟨hE,g2,hC,g4⟩:=drop_cons h1
  have bS:k<4611686018427387904:=by omega
  have Ya:=fun s=>PD h a.name s
  have Z9:a.name∉done.map (·.name):=by
   have:=Xi _ [] htw (done.map (·.name)) a.name (rest.map (·.name)) (by simp [Pg.pn,h2])
   simpa using this
  have hmp:vd a.name (.slice .shared 1 ((p.oT a.name).map encStr)) (mf p done)=some (mf p (done++ [a])):=by
   rw [Hh Z9,Hg];rfl
  repeat' (first
 | simp only [go_sem,hC,hE,hF,hM,hmp]
 | (with_reducible refine CU (Ya _) ?_)
 | (with_reducible refine aH hQ ?_;simp only [aA,aB,Option.some.injEq,exists_eq_left',go_sem,hC,hE,hF,hM];repeat' (first | exact Ok.out | with_reducible refine aJ ?_ ?_ | (simp;done))))
  refine dV 3 0 ?_ ?_ (IH (rest,k+1,done++ [a]) ⟨g2,by rw [h2];simp⟩ (Nat.lt_succ_self _))
  ·(simp only [go_sem,hC,hE,hF,hM,aP bS];try exact bR)
  ·(simp only [go_sem,hC,hE,hF,hM,aP bS];try exact bR)
 | nil=>
  have hC:=drop_nil h1
  rw [List.append_nil]at h2
  subst h2
  repeat' (first
 | simp only [go_sem,hC,hE,hF,hM,qS]
 | (with_reducible refine CU (dS _) ?_)
 | (with_reducible refine aH hQ ?_;simp only [aA,aB,Option.some.injEq,exists_eq_left',go_sem,hC,hE,hF,hM];repeat' (first | exact Ok.out | with_reducible refine aJ ?_ ?_ | (simp;done))))
  refine dc 3 0 (bw.ind (ι:=List Im×Nat) (fun i=>p.eL.L.drop i.2=i.1∧lh 8 (Hj p (i.1.map Im.s))=R) (fun i=>i.1.length)
   (fun i=> [(1, .ptr 0 0),(2, .ptr 1 0),(3, .fZ 2),(33, .slice .shared 17 (p.eL.L.map eC)),(34, .int .i64 (p.eL.L.length:Int)),(35, .int .i64 (i.2:Int))]) (fun i=>⟨[cB p,[.int .i64 0, .int .i64 0],mf p p.procs],[]⟩) ?_ (p.eL.L,0) ⟨rfl,hR⟩)
  clear hR
  rintro⟨rest,k⟩ ⟨h1,hR⟩ IH
  dsimp only at h1 hR
  cases rest with
  | nil=>
   have hC:=drop_nil h1
   simp only [List.map_nil,Hj,lh]at hR
   subst hR
   repeat' (first
 | simp only [go_sem,hC,hE,hF,hM]
 | (with_reducible refine aH hQ ?_;simp only [aA,aB,Option.some.injEq,exists_eq_left',go_sem,hC,hE,hF,hM];repeat' (first | exact Ok.out | with_reducible refine aJ ?_ ?_ | (simp;done))))
  | cons a rest=>
   obtain⟨hE,g2,hC,g4⟩:=drop_cons h1
   have bS:k<4611686018427387904:=by omega
   have Eb:a.s∈p.pre:=by rw [← hL];exact List.mem_map_of_mem (List.mem_of_getElem? hE)
   have Bi:=fun s=>Tr (MC (h.pre _ Eb)) (Hk h a.s.proc) s
   simp only [List.map_cons,Hj,Sm.Jq]at hR
   rcases Bool.eq_false_or_eq_true (a.s.kind==4)with c1 | c1
   ·obtain⟨f,hf⟩:=PO (kq _ Eb c1)
    have hmg:=fun z=>Hi (p:=p) (z:=z) hf
    rcases Bool.eq_false_or_eq_true (oi a.s.name (p.oT a.s.proc) [] a.s.args)with c2 | c2
    ·simp only [c1,c2,Bool.not_true,Bool.and_false,Bool.false_eq_true,if_false]at hR
     repeat' (first
 | simp only [go_sem,hC,hE,hF,hM,c1,c2,hmg]
 | (with_reducible refine CU (Bi _) ?_)
 | (with_reducible refine aH hQ ?_;simp only [aA,aB,Option.some.injEq,exists_eq_left',go_sem,hC,hE,hF,hM];repeat' (first | exact Ok.out | with_reducible refine aJ ?_ ?_ | (simp;done))))
     refine dV 3 0 ?_ ?_ (IH (rest,k+1) ⟨g2,hR⟩ (Nat.lt_succ_self _))
     ·(simp only [go_sem,hC,hE,hF,hM,aP bS];try exact bR)
     ·(simp only [go_sem,hC,hE,hF,hM,aP bS];try exact bR)
    ·simp only [c1,c2,Bool.not_false,Bool.and_true,if_true,lh]at hR
     subst hR
     repeat' (first
 | simp only [go_sem,hC,hE,hF,hM,c1,c2,hmg]
 | (with_reducible refine CU (Bi _) ?_)
 | (with_reducible refine aH hQ ?_;simp only [aA,aB,Option.some.injEq,exists_eq_left',go_sem,hC,hE,hF,hM];repeat' (first | exact Ok.out | with_reducible refine aJ ?_ ?_ | (simp;done))))
   ·simp only [c1,Bool.false_and,Bool.false_eq_true,if_false]at hR
    repeat' (first
 | simp only [go_sem,hC,hE,hF,hM,c1]
 | (with_reducible refine CU (Bi _) ?_)
 | (with_reducible refine aH hQ ?_;simp only [aA,aB,Option.some.injEq,exists_eq_left',go_sem,hC,hE,hF,hM];repeat' (first | exact Ok.out | with_reducible refine aJ ?_ ?_ | (simp;done))))
    refine dV 3 0 ?_ ?_ (IH (rest,k+1) ⟨g2,hR⟩ (Nat.lt_succ_self _))
    ·(simp only [go_sem,hC,hE,hF,hM,aP bS];try exact bR)
    ·(simp only [go_sem,hC,hE,hF,hM,aP bS];try exact bR)
end Go.Abs

/-! Al3 -/

namespace Go.Abs
set_option maxRecDepth 8000
open Go.Proofs
def Sm.aaD (p:Pg) (v:Sm):Bool:=v.rf p && apM (p.oT v.proc) v.ama v.args
def apF (p:Pg):List Sm→Option Sm
 | []=>none
 | v::l=>if v.kind==4 && !(v.aaD p)then some v else apF p l
end Go.Abs

/-! Prs3 -/

namespace Go.Abs
set_option maxRecDepth 8000
open Go.Proofs
theorem Xj {n:Nat} {l:List ay} {dL:Int} {r:Rd} {p:List ay×Rd} (h:Rd.names n l dL r=some p) :
 aD Tryz.prog ix [.ptr 0 0, .slice (.tok 0) 1 (l.map encStr), .int .i64 dL] ⟨[cb r],[some l.length]⟩ (.slice (.tok 0) 1 (p.1.map encStr)) ⟨[cb p.2],[some p.1.length]⟩:=by
 refine aD.go vD rfl fun B Q hB hQ=> ?_
 have⟨hC,hE,hF,hM⟩:=bL
 repeat' (first
 | simp only [go_sem,hC,hE,hF,hM]
 | (with_reducible first | refine bD fun hc=> ?_ | refine bE fun hc=> ?_ | refine bF (fun hc=> ?_) fun hc=> ?_) <;> (try simp only [hc,bs, ↓reduceIte]at h) <;> try simp only [hc]
 | (with_reducible refine aH hQ ?_;simp only [aA,aB,bM,bN,go_sem,hC,hE,hF,hM];repeat' (first | exact Ok.out | with_reducible refine aJ ?_ ?_ | (simp;done))))
 refine dc 1 1 (bw.ind (ι:=Nat×List ay×Rd×Nat) (fun i=>Rd.names i.1 i.2.1 dL i.2.2.1=some p∧i.2.2.2=i.2.1.length) (fun i=>i.1)
  (fun i=> [(0, .ptr 0 0),(1, .slice (.tok 0) 1 (i.2.1.map encStr)),(2, .int .i64 dL)]) (fun i=>⟨[cb i.2.2.1],[some i.2.2.2]⟩) ?_ (n,l,r,l.length) ⟨h,rfl⟩)
 rintro⟨n,l,r,k⟩ ⟨h,hk⟩ IH
 dsimp only at hk;subst hk
 cases n with
 | zero=>simp only [Rd.names]at h;cases h
 | succ n=>
  simp only [Rd.names]at h
  repeat' (first
 | simp only [go_sem,hC,hE,hF,hM]
 | (rw [Option.bind_eq_some_iff]at h;obtain⟨_,h1,h⟩:=h;first | (with_reducible refine CU (wo h1 (by with_unfolding_all rfl)) ?_) | (obtain⟨hF,oj⟩:=fG h1;subst oj;simp only [go_sem,hC,hE,hF,hM]) | (with_reducible refine CU (rN h1 (by with_unfolding_all rfl)) ?_) | (with_reducible refine CU (oQ h1 (by with_unfolding_all rfl)) ?_))
 | (with_reducible refine CU (jM (by with_unfolding_all rfl)) ?_)
 | (with_reducible first | refine bD fun hc=> ?_ | refine bE fun hc=> ?_ | refine bF (fun hc=> ?_) fun hc=> ?_) <;> (try simp only [hc,bs, ↓reduceIte]at h) <;> try simp only [hc]
 | (with_reducible refine aH hQ ?_;(try cases h);simp only [aA,aB,bM,bN,go_sem,hC,hE,hF,hM];repeat' (first | exact Ok.out | with_reducible refine aJ ?_ ?_ | (simp;done))))
  refine dc 1 1 (IH (n,_,_,l.length+1) ⟨h,by simp⟩ (Nat.lt_succ_self _))
theorem Jr {n:Nat} {l:List ay} {dL:Int} {r:Rd} {p:List ay×Rd} (h:Rd.names n l dL r=some p) {s:St} {o t:Nat} (ho:s.az[o]? = some (cb r)) (ht:s.aC[t]? = some (some l.length)) :
 aD Tryz.prog ix [.ptr o 0, .slice (.tok t) 1 (l.map encStr), .int .i64 dL] s (.slice (.tok t) 1 (p.1.map encStr)) ⟨s.az.set o (cb p.2),s.aC.set t (some p.1.length)⟩:=
 (Xj h).aci rfl (e9 r) (e9 p.2) (eI l) (eI p.1) ho ht
theorem Hl {n:Nat} {r:Rd} {p:List ay×Rd} (h:Rd.labels n [] r=some p) {s:St} {o:Nat} (ho:s.az[o]? = some (cb r)) :
 aD Tryz.prog l6 [.ptr o 0] s (.slice .shared 1 (p.1.map encStr)) ⟨s.az.set o (cb p.2),s.aC⟩:=by
 refine aD.jB ?_ rfl (e9 r) (e9 p.2) (by simp [D.ok,eI,Tag.ok]) ho
 refine aD.go ub rfl fun B Q hB hQ=> ?_
 have⟨hC,hE,hF,hM⟩:=bL
 repeat' (first
 | simp only [go_sem,hC,hE,hF,hM]
 | (with_reducible first | refine bD fun hc=> ?_ | refine bE fun hc=> ?_ | refine bF (fun hc=> ?_) fun hc=> ?_) <;> (try simp only [hc,bs, ↓reduceIte]at h) <;> try simp only [hc]
 | (with_reducible refine aH hQ ?_;simp only [aA,aB,bM,bN,go_sem,hC,hE,hF,hM];repeat' (first | exact Ok.out | with_reducible refine aJ ?_ ?_ | (simp;done))))
 refine bw.pf 3 1 rfl ?_
 simp only [go_sem,hC,hE,hF,hM]
 refine dc 1 1 (bw.ind (ι:=Nat×List ay×Rd×Nat) (fun i=>Rd.labels i.1 i.2.1 i.2.2.1=some p∧i.2.2.2=i.2.1.length) (fun i=>i.1)
  (fun i=> [(0, .ptr 0 0),(3, .slice (.tok 0) 1 (i.2.1.map encStr))]) (fun i=>⟨[cb i.2.2.1],[some i.2.2.2]⟩) ?_ (n,[],r,0) ⟨h,rfl⟩)
 rintro⟨n,l,r,k⟩ ⟨h,hk⟩ IH
 dsimp only at hk;subst hk
 cases n with
 | zero=>simp only [Rd.labels]at h;cases h
 | succ n=>
  simp only [Rd.labels,Rd.ahead]at h
  repeat' (first
 | simp only [go_sem,hC,hE,hF,hM]
 | (rw [Option.bind_eq_some_iff]at h;obtain⟨_,h1,h⟩:=h;first | (with_reducible refine CU (nW h1 (by with_unfolding_all rfl)) ?_;have hC:=qR h1) | (obtain⟨hF,oj⟩:=fG h1;subst oj;simp only [go_sem,hC,hE,hF,hM]) | (obtain⟨MA,hE⟩:=uD h1;simp only [go_sem,hE,hC,hE,hF,hM]))
 | (with_reducible refine CU (jM (by with_unfolding_all rfl)) ?_)
 | (with_reducible first | refine bD fun hc=> ?_ | refine bE fun hc=> ?_ | refine bF (fun hc=> ?_) fun hc=> ?_) <;> (try simp only [hc,bs, ↓reduceIte]at h) <;> try simp only [hc]
 | (with_reducible refine aH hQ ?_;(try cases h);simp only [aA,aB,bM,bN,go_sem,hC,hE,hF,hM];repeat' (first | exact Ok.out | with_reducible refine aJ ?_ ?_ | (simp;done))))
  refine dc 1 1 (IH (n,_,_,l.length+1) ⟨h,by simp⟩ (Nat.lt_succ_self _))
end Go.Abs

/-! Prs4 -/

namespace Go.Abs
set_option maxRecDepth 8000
open Go.Proofs
theorem Tv {r:Rd} {b:Bool} (h:r.nT=some b) {s:St} {o:Nat} (ho:s.az[o]? = some (cb r)) :
 aD Tryz.prog l7 [.ptr o 0] s (.bool b) ⟨s.az.set o (cb r),s.aC⟩:=by
 refine aD.jB ?_ rfl (e9 r) (e9 r) rfl ho
 unfold Rd.nT at h
 refine aD.go uc rfl fun B Q hB hQ=> ?_
 have⟨hC,hE,hF,hM⟩:=bL
 repeat' (first
 | simp only [go_sem,hC,hE,hF,hM]
 | (rw [Option.bind_eq_some_iff]at h;obtain⟨_,h1,h⟩:=h;first | (with_reducible refine CU (nW h1 (by with_unfolding_all rfl)) ?_))
 | (with_reducible first | refine bD fun hc=> ?_ | refine bE fun hc=> ?_ | refine bF (fun hc=> ?_) fun hc=> ?_) <;> (try simp only [hc,bs, ↓reduceIte]at h) <;> try simp only [hc]
 | (with_reducible refine aH hQ ?_;(try cases h);simp only [aA,aB,bM,bN,go_sem,hC,hE,hF,hM];repeat' (first | exact Ok.out | with_reducible refine aJ ?_ ?_ | (simp;done))))
theorem aaE {m:Nat} {name proc:ay} {r:Rd} {p:Sm×Rd} (h:Rd.call m name proc r=some p) {s:St} {o:Nat} (ho:s.az[o]? = some (cb r)) :
 aD Tryz.prog kK [.ptr o 0, .str name, .str proc] s (.agg (bh p.1)) ⟨s.az.set o (cb p.2),s.aC⟩:=by
 refine aD.jB ?_ rfl (e9 r) (e9 p.2) (by simp [D.ok,mC]) ho
 unfold Rd.call Rd.other at h
 refine aD.go wc rfl fun B Q hB hQ=> ?_
 have⟨hC,hE,hF,hM⟩:=bL
 repeat' (first
 | simp only [go_sem,hC,hE,hF,hM]
 | (rw [Option.bind_eq_some_iff]at h;obtain⟨_,h1,h⟩:=h;first | (with_reducible refine CU (oQ h1 (by with_unfolding_all rfl)) ?_) | (with_reducible refine CU (yW h1 (by with_unfolding_all rfl)) ?_))
 | (with_reducible refine CU (jM (by with_unfolding_all rfl)) ?_)
 | (with_reducible first | refine bD fun hc=> ?_ | refine bE fun hc=> ?_ | refine bF (fun hc=> ?_) fun hc=> ?_) <;> (try simp only [hc,bs, ↓reduceIte]at h) <;> try simp only [hc]
 | (with_reducible refine aH hQ ?_;exact lJ)
 | (cases h;replace h:=hr;clear hr;(try simp only [bs, ↓reduceIte]at h))
 | (cases h;done))
 rw [Option.bind_eq_some_iff]at h
 obtain⟨q,h,hr⟩:=h
 refine bw.tj 2 10 6 rfl rfl ?_
 simp only [go_sem,hC,hE,hF,hM]
 refine dc 3 1 (bw.ind (ι:=Nat×List Ar×Rd×Nat) (fun i=>Rd.jx m i.1 i.2.1 i.2.2.1=some q∧i.2.2.2=i.2.1.length) (fun i=>i.1)
  (fun i=> [(0, .ptr 0 0),(6, .ptr 1 0),(7, .ptr 2 0)]) (fun i=>⟨[cb i.2.2.1,bh DS,[.int .i64 0, .int .i64 4, .slice .shared 1 [], .str name, .str proc, .int .i64 0, .int .i64 0, .str [], .slice .shared 4 [], .bool false, .slice (.tok 0) 6 (i.2.1.map ek), .slice .shared 13 [], .slice .shared 13 []]],[some i.2.2.2]⟩) ?_ (m,[],_,0) ⟨h,rfl⟩)
 rintro⟨n,l,r,k⟩ ⟨h,hk⟩ IH
 dsimp only at hk;subst hk
 cases n with
 | zero=>simp only [Rd.jx]at h;cases h
 | succ n=>
  simp only [Rd.jx]at h
  repeat' (first
 | simp only [go_sem,hC,hE,hF,hM]
 | (rw [Option.bind_eq_some_iff]at h;obtain⟨_,h1,h⟩:=h;first | (with_reducible refine CU (rN h1 (by with_unfolding_all rfl)) ?_) | (obtain⟨hF,oj⟩:=fG h1;subst oj;simp only [go_sem,hC,hE,hF,hM]) | (with_reducible refine CU (wo h1 (by with_unfolding_all rfl)) ?_) | (with_reducible refine CU (zu h1 (by with_unfolding_all rfl)) ?_) | (with_reducible refine CU (oQ h1 (by with_unfolding_all rfl)) ?_))
 | (with_reducible refine CU (jM (by with_unfolding_all rfl)) ?_)
 | (with_reducible first | refine bD fun hc=> ?_ | refine bE fun hc=> ?_ | refine bF (fun hc=> ?_) fun hc=> ?_) <;> (try simp only [hc,bs, ↓reduceIte]at h) <;> try simp only [hc]
 | (with_reducible refine aH hQ ?_;exact lJ)
 | (cases h;replace h:=hr;clear hr;(try simp only [bs, ↓reduceIte]at h))
 | (cases h;done))
  ·refine dc 3 1 (IH (n,_,_,l.length+1) ⟨h,by simp⟩ (Nat.lt_succ_self _))
  ·refine dc 3 1 (IH (n,_,_,l.length+1) ⟨h,by simp⟩ (Nat.lt_succ_self _))
theorem Tw {m:Nat} {r:Rd} {p:Sm×Rd} (h:Rd.named m r=some p) {s:St} {o:Nat} (ho:s.az[o]? = some (cb r)) :
 aD Tryz.prog mF [.ptr o 0] s (.agg (bh p.1)) ⟨s.az.set o (cb p.2),s.aC⟩:=by
 refine aD.jB ?_ rfl (e9 r) (e9 p.2) (by simp [D.ok,mC]) ho
 unfold Rd.named Rd.ahead at h
 refine aD.go vz rfl fun B Q hB hQ=> ?_
 have⟨hC,hE,hF,hM⟩:=bL
 repeat' (first
 | simp only [go_sem,hC,hE,hF,hM]
 | (rw [Option.bind_eq_some_iff]at h;obtain⟨_,h1,h⟩:=h;first | (with_reducible refine CU (wo h1 (by with_unfolding_all rfl)) ?_) | (with_reducible refine CU (oQ h1 (by with_unfolding_all rfl)) ?_) | (with_reducible refine CU (yW h1 (by with_unfolding_all rfl)) ?_) | (with_reducible refine CU (nW h1 (by with_unfolding_all rfl)) ?_;have hC:=qR h1) | (obtain⟨MA,hE⟩:=uD h1;simp only [go_sem,hE,hC,hE,hF,hM]) | (with_reducible refine CU (zu h1 (by with_unfolding_all rfl)) ?_))
 | (with_reducible refine CU (jM (by with_unfolding_all rfl)) ?_)
 | (with_reducible refine CU (aaE h (by with_unfolding_all rfl)) ?_)
 | (with_reducible first | refine bD fun hc=> ?_ | refine bE fun hc=> ?_ | refine bF (fun hc=> ?_) fun hc=> ?_) <;> (try simp only [hc,bs, ↓reduceIte]at h) <;> try simp only [hc]
 | (with_reducible refine aH hQ ?_;(try cases h);simp only [aA,aB,bM,bN,go_sem,hC,hE,hF,hM];repeat' (first | exact Ok.out | with_reducible refine aJ ?_ ?_ | (simp;done))))
theorem Xk {m:Nat} {word:ay} {r:Rd} {p:Sm×Rd} (h:Rd.plain m word r=some p) {s:St} {o:Nat} (ho:s.az[o]? = some (cb r)) :
 aD Tryz.prog mH [.ptr o 0, .str word] s (.agg (bh p.1)) ⟨s.az.set o (cb p.2),s.aC⟩:=by
 refine aD.jB ?_ rfl (e9 r) (e9 p.2) (by simp [D.ok,mC]) ho
 unfold Rd.plain at h
 refine aD.go vB rfl fun B Q hB hQ=> ?_
 have⟨hC,hE,hF,hM⟩:=bL
 repeat' (first
 | simp only [go_sem,hC,hE,hF,hM]
 | (rw [Option.bind_eq_some_iff]at h;obtain⟨_,h1,h⟩:=h;first | (with_reducible refine CU (wo h1 (by with_unfolding_all rfl)) ?_) | (with_reducible refine CU (yW h1 (by with_unfolding_all rfl)) ?_) | (with_reducible refine CU (zu h1 (by with_unfolding_all rfl)) ?_))
 | (with_reducible first | refine bD fun hc=> ?_ | refine bE fun hc=> ?_ | refine bF (fun hc=> ?_) fun hc=> ?_) <;> (try simp only [hc,bs, ↓reduceIte]at h) <;> try simp only [hc]
 | (with_reducible refine aH hQ ?_;(try cases h);simp only [aA,aB,bM,bN,go_sem,hC,hE,hF,hM];repeat' (first | exact Ok.out | with_reducible refine aJ ?_ ?_ | (simp;done))))
theorem PR {m:Nat} {r:Rd} {p:Ex×Rd} (h:Rd.head m r=some p) {s:St} {o:Nat} (ho:s.az[o]? = some (cb r)) :
 aD Tryz.prog kJ [.ptr o 0] s (.agg (bC p.1)) ⟨s.az.set o (cb p.2),s.aC⟩:=by
 refine aD.jB ?_ rfl (e9 r) (e9 p.2) (by simp [D.ok,gH]) ho
 unfold Rd.head at h
 refine aD.go wb rfl fun B Q hB hQ=> ?_
 have⟨hC,hE,hF,hM⟩:=bL
 repeat' (first
 | simp only [go_sem,hC,hE,hF,hM]
 | (rw [Option.bind_eq_some_iff]at h;obtain⟨_,h1,h⟩:=h;first | (with_reducible refine CU (oQ h1 (by with_unfolding_all rfl)) ?_) | (with_reducible refine CU (zu h1 (by with_unfolding_all rfl)) ?_))
 | (with_reducible first | refine bD fun hc=> ?_ | refine bE fun hc=> ?_ | refine bF (fun hc=> ?_) fun hc=> ?_) <;> (try simp only [hc,bs, ↓reduceIte]at h) <;> try simp only [hc]
 | (with_reducible refine aH hQ ?_;(try cases h);simp only [aA,aB,bM,bN,go_sem,hC,hE,hF,hM];repeat' (first | exact Ok.out | with_reducible refine aJ ?_ ?_ | (simp;done))))
end Go.Abs

/-! Prs5 -/

namespace Go.Abs
set_option maxRecDepth 8000
open Go.Proofs
abbrev Hm (m n:Nat):Prop:=∀ {nest:Int} {body:Bool} {r:Rd} {p:(List Sm×List ay)×Rd},Rd.rows m n nest body r=some p→∀ {s:St} {o:Nat},s.az[o]? = some (cb r)→
 aD Tryz.prog fN [.ptr o 0, .int .i64 nest, .bool body] s (.tuple [.slice .shared 13 (p.1.1.map bh), .slice .shared 1 (p.1.2.map encStr)]) ⟨s.az.set o (cb p.2),s.aC⟩
abbrev zc (m n:Nat):Prop:=∀ {nest:Int} {r:Rd} {p:Sm×Rd},Rd.stmt m n nest r=some p→∀ {s:St} {o:Nat},s.az[o]? = some (cb r)→
 aD Tryz.prog nh [.ptr o 0, .int .i64 nest] s (.agg (bh p.1)) ⟨s.az.set o (cb p.2),s.aC⟩
abbrev zC (m n:Nat):Prop:=∀ {nest:Int} {r:Rd} {p:List Sm×Rd},Rd.block m n nest r=some p→∀ {s:St} {o:Nat},s.az[o]? = some (cb r)→
 aD Tryz.prog iy [.ptr o 0, .int .i64 nest] s (.slice .shared 13 (p.1.map bh)) ⟨s.az.set o (cb p.2),s.aC⟩
abbrev AZ (m n:Nat):Prop:=∀ {nest:Int} {r:Rd} {p:Sm×Rd},Rd.choice m n nest r=some p→∀ {s:St} {o:Nat},s.az[o]? = some (cb r)→
 aD Tryz.prog l8 [.ptr o 0, .int .i64 nest] s (.agg (bh p.1)) ⟨s.az.set o (cb p.2),s.aC⟩
theorem IG {m n:Nat} (Du:zC m n):AZ m (n+1):=by
 intro nest r p h s o ho
 refine aD.jB ?_ rfl (e9 r) (e9 p.2) (by simp [D.ok,mC]) ho
 unfold Rd.choice at h
 refine aD.go ud rfl fun B Q hB hQ=> ?_
 have⟨hC,hE,hF,hM⟩:=bL
 repeat' (first
 | simp only [go_sem,hC,hE,hF,hM]
 | (rw [Option.bind_eq_some_iff]at h;obtain⟨_,h1,h⟩:=h;first | (with_reducible refine CU (PR h1 (by with_unfolding_all rfl)) ?_) | (with_reducible refine CU (Du h1 (by with_unfolding_all rfl)) ?_) | (with_reducible refine CU (rN h1 (by with_unfolding_all rfl)) ?_))
 | (with_reducible first | refine bD fun hc=> ?_ | refine bE fun hc=> ?_ | refine bF (fun hc=> ?_) fun hc=> ?_) <;> (try simp only [hc,bs, ↓reduceIte]at h) <;> try simp only [hc]
 | (with_reducible refine aH hQ ?_;(try cases h);simp only [aA,aB,bM,bN,go_sem,hC,hE,hF,hM];repeat' (first | exact Ok.out | with_reducible refine aJ ?_ ?_ | (simp;done))))
theorem MD {m n:Nat} (Hn:Hm m n):zC m (n+1):=by
 intro nest r p h s o ho
 refine aD.jB ?_ rfl (e9 r) (e9 p.2) (by simp [D.ok,nB,Tag.ok]) ho
 unfold Rd.block at h
 refine aD.go vA rfl fun B Q hB hQ=> ?_
 have⟨hC,hE,hF,hM⟩:=bL
 repeat' (first
 | simp only [go_sem,hC,hE,hF,hM]
 | (rw [Option.bind_eq_some_iff]at h;obtain⟨_,h1,h⟩:=h;first | (with_reducible refine CU (oQ h1 (by with_unfolding_all rfl)) ?_) | (obtain⟨hM,hik⟩:=DV h1;subst hik;simp only [go_sem,hM,hC,hE,hF,hM]) | (with_reducible refine CU (Hn h1 (by with_unfolding_all rfl)) ?_))
 | (with_reducible first | refine bD fun hc=> ?_ | refine bE fun hc=> ?_ | refine bF (fun hc=> ?_) fun hc=> ?_) <;> (try simp only [hc,bs, ↓reduceIte]at h) <;> try simp only [hc]
 | (with_reducible refine aH hQ ?_;(try cases h);simp only [aA,aB,bM,bN,go_sem,hC,hE,hF,hM];repeat' (first | exact Ok.out | with_reducible refine aJ ?_ ?_ | (simp;done))))
theorem PS {m n:Nat} (Du:zC m n) (Tx:AZ m n):zc m (n+1):=by
 intro nest r p h s o ho
 refine aD.jB ?_ rfl (e9 r) (e9 p.2) (by simp [D.ok,mC]) ho
 unfold Rd.stmt at h
 refine aD.go wa rfl fun B Q hB hQ=> ?_
 have⟨hC,hE,hF,hM⟩:=bL
 repeat' (first
 | simp only [go_sem,hC,hE,hF,hM]
 | (rw [Option.bind_eq_some_iff]at h;obtain⟨_,h1,h⟩:=h;first | (with_reducible refine CU (Tv h1 (by with_unfolding_all rfl)) ?_) | (obtain⟨hM,hik⟩:=Gm h1;subst hik;simp only [go_sem,hM,hC,hE,hF,hM]) | (with_reducible refine CU (nW h1 (by with_unfolding_all rfl)) ?_;have hC:=qR h1) | (with_reducible refine CU (PR h1 (by with_unfolding_all rfl)) ?_) | (with_reducible refine CU (Du h1 (by with_unfolding_all rfl)) ?_) | (with_reducible refine CU (Xk h1 (by with_unfolding_all rfl)) ?_) | (with_reducible refine CU (oQ h1 (by with_unfolding_all rfl)) ?_) | (with_reducible refine CU (BR h1 (by with_unfolding_all rfl)) ?_))
 | (with_reducible refine CU (Tx h (by with_unfolding_all rfl)) ?_)
 | (with_reducible refine CU (Tw h (by with_unfolding_all rfl)) ?_)
 | (with_reducible first | refine bD fun hc=> ?_ | refine bE fun hc=> ?_ | refine bF (fun hc=> ?_) fun hc=> ?_) <;> (try simp only [hc,bs, ↓reduceIte]at h) <;> try simp only [hc]
 | (with_reducible refine aH hQ ?_;(try cases h);simp only [aA,aB,bM,bN,go_sem,hC,hE,hF,hM];repeat' (first | exact Ok.out | with_reducible refine aJ ?_ ?_ | (simp;done))))
theorem PT {m n:Nat} (wG : ∀ j<n,zc m j) {nest:Int} {r:Rd} {p:(List Sm×List ay)×Rd} (h:Rd.rows m (n+1) nest true r=some p) :
 aD Tryz.prog fN [.ptr 0 0, .int .i64 nest, .bool true] ⟨[cb r],[]⟩ (.tuple [.slice .shared 13 (p.1.1.map bh), .slice .shared 1 (p.1.2.map encStr)]) ⟨[cb p.2],[]⟩:=by
 unfold Rd.rows at h
 refine aD.go pD rfl fun B Q hB hQ=> ?_
 have⟨hC,hE,hF,hM⟩:=bL
 repeat' (first
 | simp only [go_sem,hC,hE,hF,hM]
 | (with_reducible first | refine bD fun hc=> ?_ | refine bE fun hc=> ?_ | refine bF (fun hc=> ?_) fun hc=> ?_) <;> (try simp only [hc,bs, ↓reduceIte]at h) <;> try simp only [hc]
 | (with_reducible refine aH hQ ?_;simp only [aA,aB,bM,bN,go_sem,hC,hE,hF,hM];repeat' (first | exact Ok.out | with_reducible refine aJ ?_ ?_ | (simp;done))))
 refine bw.pf 8 13 rfl ?_
 simp only [go_sem,hC,hE,hF,hM]
 refine dc 1 1 (bw.ind (ι:=Nat×List Sm×Rd×Nat) (fun i=>Rd.fE m i.1 nest true i.2.1 i.2.2.1=some p∧i.2.2.2=i.2.1.length∧i.1≤n) (fun i=>i.1)
  (fun i=> [(0, .ptr 0 0),(1, .int .i64 nest),(2, .bool true),(8, .slice (.tok 0) 13 (i.2.1.map bh))]) (fun i=>⟨[cb i.2.2.1],[some i.2.2.2]⟩) ?_ (n,[],r,0) ⟨h,rfl,Nat.le_refl _⟩)
 rintro⟨j,l,r,k⟩ ⟨h,hk,hj⟩ IH
 dsimp only at hk hj;subst hk
 cases j with
 | zero=>simp only [Rd.fE]at h;cases h
 | succ j=>
  have Ho:=@wG j (by omega)
  simp only [Rd.fE]at h
  repeat' (first
 | simp only [go_sem,hC,hE,hF,hM,dt]
 | (rw [Option.bind_eq_some_iff]at h;obtain⟨_,h1,h⟩:=h;first | (with_reducible refine CU (Hl h1 (by with_unfolding_all rfl)) ?_) | (with_reducible refine CU (yW h1 (by with_unfolding_all rfl)) ?_;have hC:=is_lt h1) | (obtain⟨hF,oj⟩:=fG h1;subst oj;simp only [go_sem,hC,hE,hF,hM]) | (with_reducible refine CU (Ho h1 (by with_unfolding_all rfl)) ?_))
 | (with_reducible refine CU (jM (by with_unfolding_all rfl)) ?_)
 | (with_reducible first | refine bD fun hc=> ?_ | refine bE fun hc=> ?_ | refine bF (fun hc=> ?_) fun hc=> ?_) <;> (try simp only [hc,bs, ↓reduceIte]at h) <;> try simp only [hc]
 | (with_reducible refine aH hQ ?_;(try cases h);simp only [aA,aB,bM,bN,go_sem,hC,hE,hF,hM,dt];repeat' (first | exact Ok.out | with_reducible refine aJ ?_ ?_ | (simp;done))))
  ·refine dV 1 1 ?_ ?_ (IH (j,_,_,l.length+1) ⟨h,by simp,by dsimp only;omega⟩ (Nat.lt_succ_self _))
   ·(simp only [go_sem,hC,hE,hF,hM,dt];try exact bR)
   ·(simp only [go_sem,hC,hE,hF,hM,dt];try exact bR)
theorem ME {m n:Nat} (wG : ∀ j<n,zc m j) {nest:Int} {r:Rd} {p:(List Sm×List ay)×Rd} (h:Rd.rows m (n+1) nest false r=some p) :
 aD Tryz.prog fN [.ptr 0 0, .int .i64 nest, .bool false] ⟨[cb r],[]⟩ (.tuple [.slice .shared 13 (p.1.1.map bh), .slice .shared 1 (p.1.2.map encStr)]) ⟨[cb p.2],[]⟩:=by
 unfold Rd.rows at h
 refine aD.go pD rfl fun B Q hB hQ=> ?_
 have⟨hC,hE,hF,hM⟩:=bL
 repeat' (first
 | simp only [go_sem,hC,hE,hF,hM]
 | (with_reducible first | refine bD fun hc=> ?_ | refine bE fun hc=> ?_ | refine bF (fun hc=> ?_) fun hc=> ?_) <;> (try simp only [hc,bs, ↓reduceIte]at h) <;> try simp only [hc]
 | (with_reducible refine aH hQ ?_;simp only [aA,aB,bM,bN,go_sem,hC,hE,hF,hM];repeat' (first | exact Ok.out | with_reducible refine aJ ?_ ?_ | (simp;done))))
 refine bw.pf 8 13 rfl ?_
 simp only [go_sem,hC,hE,hF,hM]
 refine dc 1 1 (bw.ind (ι:=Nat×List Sm×Rd×Nat) (fun i=>Rd.fE m i.1 nest false i.2.1 i.2.2.1=some p∧i.2.2.2=i.2.1.length∧i.1≤n) (fun i=>i.1)
  (fun i=> [(0, .ptr 0 0),(1, .int .i64 nest),(2, .bool false),(8, .slice (.tok 0) 13 (i.2.1.map bh))]) (fun i=>⟨[cb i.2.2.1],[some i.2.2.2]⟩) ?_ (n,[],r,0) ⟨h,rfl,Nat.le_refl _⟩)
 rintro⟨j,l,r,k⟩ ⟨h,hk,hj⟩ IH
 dsimp only at hk hj;subst hk
 cases j with
 | zero=>simp only [Rd.fE]at h;cases h
 | succ j=>
  have Ho:=@wG j (by omega)
  simp only [Rd.fE]at h
  repeat' (first
 | simp only [go_sem,hC,hE,hF,hM,dt]
 | (rw [Option.bind_eq_some_iff]at h;obtain⟨_,h1,h⟩:=h;first | (with_reducible refine CU (Hl h1 (by with_unfolding_all rfl)) ?_) | (with_reducible refine CU (yW h1 (by with_unfolding_all rfl)) ?_;have hC:=is_lt h1) | (obtain⟨hF,oj⟩:=fG h1;subst oj;simp only [go_sem,hC,hE,hF,hM]) | (with_reducible refine CU (Ho h1 (by with_unfolding_all rfl)) ?_))
 | (with_reducible refine CU (jM (by with_unfolding_all rfl)) ?_)
 | (with_reducible first | refine bD fun hc=> ?_ | refine bE fun hc=> ?_ | refine bF (fun hc=> ?_) fun hc=> ?_) <;> (try simp only [hc,bs, ↓reduceIte]at h) <;> try simp only [hc]
 | (with_reducible refine aH hQ ?_;(try cases h);simp only [aA,aB,bM,bN,go_sem,hC,hE,hF,hM,dt];repeat' (first | exact Ok.out | with_reducible refine aJ ?_ ?_ | (simp;done))))
  ·refine dV 1 1 ?_ ?_ (IH (j,_,_,l.length+1) ⟨h,by simp,by dsimp only;omega⟩ (Nat.lt_succ_self _))
   ·(simp only [go_sem,hC,hE,hF,hM,dt];try exact bR)
   ·(simp only [go_sem,hC,hE,hF,hM,dt];try exact bR)
  ·refine dV 1 1 ?_ ?_ (IH (j,_,_,l.length+1) ⟨h,by simp,by dsimp only;omega⟩ (Nat.lt_succ_self _))
   ·(simp only [go_sem,hC,hE,hF,hM,dt];try exact bR)
   ·(simp only [go_sem,hC,hE,hF,hM,dt];try exact bR)
theorem PU {m n:Nat} (wG : ∀ j<n,zc m j):Hm m (n+1):=by
 intro nest body r p h s o ho
 refine aD.jB ?_ rfl (e9 r) (e9 p.2) (by simp [D.ok,D.bT,nB,eI,Tag.ok]) ho
 cases body
 ·exact ME wG h
 ·exact PT wG h
theorem aaG (m:Nat) : ∀ n,∀ k<n,Hm m k∧zc m k∧zC m k∧AZ m k:=by
 intro n
 induction n with
 | zero=>intro k h;exact absurd h (Nat.not_lt_zero _)
 | succ n ih=>
  intro k hk
  cases k with
  | zero=>
   refine⟨?_, ?_, ?_, ?_⟩
   ·intro nest body r p h;simp only [Rd.rows]at h;cases h
   ·intro nest r p h;simp only [Rd.stmt]at h;cases h
   ·intro nest r p h;simp only [Rd.block]at h;cases h
   ·intro nest r p h;simp only [Rd.choice]at h;cases h
  | succ k=>
   obtain⟨h1,h2,h3,h4⟩:=ih k (by omega)
   exact⟨PU fun j hj=>(ih j (by omega)).2.1,PS h3 h4,MD h1,IG h3⟩
theorem Hn {m n:Nat} {nest:Int} {body:Bool} {r:Rd} {p:(List Sm×List ay)×Rd} (h:Rd.rows m n nest body r=some p) {s:St} {o:Nat} (ho:s.az[o]? = some (cb r)) :
 aD Tryz.prog fN [.ptr o 0, .int .i64 nest, .bool body] s (.tuple [.slice .shared 13 (p.1.1.map bh), .slice .shared 1 (p.1.2.map encStr)]) ⟨s.az.set o (cb p.2),s.aC⟩:=
 (aaG m (n+1) n (Nat.lt_succ_self _)).1 h ho
end Go.Abs

/-! Prs6 -/

namespace Go.Abs
set_option maxRecDepth 8000
open Go.Proofs
theorem uZ {m:Nat} {B:eU} {Q:Exit→Tm→St→Prop} {row:List D} {name:ay} {p:Pc×Rd} (hB:B.s = ⟨[row],[]⟩) (hQ:hZ 1 0 [(2,some (true,5))] (.agg (cL p.1)) ⟨[cb p.2],[]⟩=Q)
 (ps:List Pm) (r:Rd) (h:Rd.lQ m name ps r=some p) :
 bw Tryz.prog B 56 ZC (jz 2 (lP (gp Tryz.prog B 56 ZD Q) Q)) [(0, .ptr 0 0),(2, .ptr 1 0),(3, .ptr 2 0)]
  ⟨[cb r,[.str [], .slice .full 0 [], .slice .full 0 [], .slice .full 0 [], .slice .full 0 []],[.str name, .slice .shared 2 (ps.map ff), .slice .full 0 [], .slice .full 0 [], .slice .full 0 []]],[]⟩:=by
 have⟨hC,hE,hF,hM⟩:=bL
 unfold Rd.lQ at h
 rw [Option.bind_eq_some_iff]at h
 obtain⟨q,h,hr⟩:=h
 refine bw.tj 2 2 1 rfl rfl ?_
 simp only [go_sem,hC,hE,hF,hM]
 refine dc 3 1 (bw.ind (ι:=Nat×List ay×Rd×Nat) (fun i=>Rd.vars m i.1 i.2.1 i.2.2.1=some q∧i.2.2.2=i.2.1.length) (fun i=>i.1)
  (fun i=> [(0, .ptr 0 0),(2, .ptr 1 0),(3, .ptr 2 0)]) (fun i=>⟨[cb i.2.2.1,[.str [], .slice .full 0 [], .slice .full 0 [], .slice .full 0 [], .slice .full 0 []],[.str name, .slice .shared 2 (ps.map ff), .slice (.tok 0) 1 (i.2.1.map encStr), .slice .full 0 [], .slice .full 0 []]],[some i.2.2.2]⟩) ?_ (m,[],r,0) ⟨h,rfl⟩)
 rintro⟨n,l,r,k⟩ ⟨h,hk⟩ IH
 dsimp only at hk;subst hk
 cases n with
 | zero=>simp only [Rd.vars]at h;cases h
 | succ n=>
  simp only [Rd.vars]at h
  repeat' (first
 | simp only [go_sem,hC,hE,hF,hM]
 | (rw [Option.bind_eq_some_iff]at h;obtain⟨_,h1,h⟩:=h;first | (with_reducible refine CU (rN h1 (by with_unfolding_all rfl)) ?_) | (with_reducible refine CU (Jr h1 (by with_unfolding_all rfl) (by with_unfolding_all rfl)) ?_) | (with_reducible refine CU (Hn h1 (by with_unfolding_all rfl)) ?_))
 | (with_reducible first | refine bD fun hc=> ?_ | refine bE fun hc=> ?_ | refine bF (fun hc=> ?_) fun hc=> ?_) <;> (try simp only [hc,bs, ↓reduceIte]at h) <;> try simp only [hc]
 | (with_reducible refine aH hQ ?_;exact lJ)
 | (cases h;replace h:=hr;clear hr;(try simp only [bs, ↓reduceIte]at h))
 | (cases h;done))
  refine dc 3 1 (IH (n,_,_,_) ⟨h,rfl⟩ (Nat.lt_succ_self _))
theorem aaH {m:Nat} {r:Rd} {p:Pc×Rd} (h:Rd.proc m r=some p) {s:St} {o:Nat} (ho:s.az[o]? = some (cb r)) :
 aD Tryz.prog ng [.ptr o 0] s (.agg (cL p.1)) ⟨s.az.set o (cb p.2),s.aC⟩:=by
 refine aD.jB ?_ rfl (e9 r) (e9 p.2) (by simp [D.ok,yI]) ho
 unfold Rd.proc Rd.other at h
 refine aD.go wi rfl fun B Q hB hQ=> ?_
 have⟨hC,hE,hF,hM⟩:=bL
 repeat' (first
 | simp only [go_sem,hC,hE,hF,hM]
 | (rw [Option.bind_eq_some_iff]at h;obtain⟨_,h1,h⟩:=h;first | (with_reducible refine CU (oQ h1 (by with_unfolding_all rfl)) ?_) | (with_reducible refine CU (yW h1 (by with_unfolding_all rfl)) ?_) | (with_reducible refine CU (wo h1 (by with_unfolding_all rfl)) ?_))
 | (with_reducible refine CU (jM (by with_unfolding_all rfl)) ?_)
 | (with_reducible first | refine bD fun hc=> ?_ | refine bE fun hc=> ?_ | refine bF (fun hc=> ?_) fun hc=> ?_) <;> (try simp only [hc,bs, ↓reduceIte]at h) <;> try simp only [hc]
 | (with_reducible refine aH hQ ?_;simp only [aA,aB,bM,bN,go_sem,hC,hE,hF,hM];repeat' (first | exact Ok.out | with_reducible refine aJ ?_ ?_ | (simp;done))))
 ·refine dc 3 0 (uZ hB hQ [] _ h)
 ·rename_i nm _ _ _ _ _
  rw [Option.bind_eq_some_iff]at h
  obtain⟨q,h,hr⟩:=h
  refine bw.tj 2 1 2 rfl rfl ?_
  simp only [go_sem,hC,hE,hF,hM]
  refine dc 3 1 (bw.ind (ι:=Nat×List Pm×Rd×Nat) (fun i=>Rd.params i.1 i.2.1 i.2.2.1=some q∧i.2.2.2=i.2.1.length) (fun i=>i.1)
   (fun i=> [(0, .ptr 0 0),(2, .ptr 1 0),(3, .ptr 2 0)]) (fun i=>⟨[cb i.2.2.1,[.str [], .slice .full 0 [], .slice .full 0 [], .slice .full 0 [], .slice .full 0 []],[.str nm.1, .slice (.tok 0) 2 (i.2.1.map ff), .slice .full 0 [], .slice .full 0 [], .slice .full 0 []]],[some i.2.2.2]⟩) ?_ (m,[],_,0) ⟨h,rfl⟩)
  rintro⟨n,l,r,k⟩ ⟨h,hk⟩ IH
  dsimp only at hk;subst hk
  cases n with
  | zero=>simp only [Rd.params]at h;cases h
  | succ n=>
   simp only [Rd.params]at h
   repeat' (first
 | simp only [go_sem,hC,hE,hF,hM]
 | (rw [Option.bind_eq_some_iff]at h;obtain⟨_,h1,h⟩:=h;first | (with_reducible refine CU (rN h1 (by with_unfolding_all rfl)) ?_) | (with_reducible refine CU (wo h1 (by with_unfolding_all rfl)) ?_) | (obtain⟨hF,oj⟩:=fG h1;subst oj;simp only [go_sem,hC,hE,hF,hM]) | (with_reducible refine CU (oQ h1 (by with_unfolding_all rfl)) ?_))
 | (with_reducible refine CU (jM (by with_unfolding_all rfl)) ?_)
 | (with_reducible first | refine bD fun hc=> ?_ | refine bE fun hc=> ?_ | refine bF (fun hc=> ?_) fun hc=> ?_) <;> (try simp only [hc,bs, ↓reduceIte]at h) <;> try simp only [hc]
 | (with_reducible refine aH hQ ?_;exact lJ)
 | (cases h;replace h:=hr;clear hr;(try simp only [bs, ↓reduceIte]at h))
 | (cases h;done))
   ·refine dc 3 1 (IH (n,_,_,l.length+1) ⟨h,by simp⟩ (Nat.lt_succ_self _))
   ·refine dc 3 0 (uZ hB hQ _ _ h)
   ·refine dc 3 0 (uZ hB hQ _ _ h)
 ·refine dc 3 0 (uZ hB hQ [] _ h)
theorem Hp {m:Nat} {B:eU} {Q:Exit→Tm→St→Prop} {row:List D} {g:List ay} {p:Pg×Rd} (hB:B.s = ⟨[row],[]⟩) (hQ:hZ 1 0 [(2,some (true,2))] (.agg (cB p.1)) ⟨[cb p.2],[]⟩=Q)
 (r:Rd) {k:Nat} (h:((Rd.procs m k [] r).bind fun q=>some (⟨g,q.1⟩,q.2))=some p) :
 bw Tryz.prog B 49 QSV (jz 2 (lP (gp Tryz.prog B 49 QT4 Q) Q)) [(0, .ptr 0 0),(2, .ptr 1 0),(3, .ptr 2 0)]
  ⟨[cb r,[.slice .full 0 [], .slice .full 0 []],[.slice .shared 1 (g.map encStr), .slice .full 0 []]],[]⟩:=by
 have⟨hC,hE,hF,hM⟩:=bL
 rw [Option.bind_eq_some_iff]at h
 obtain⟨q,h,hr⟩:=h
 cases hr
 refine bw.tj 2 1 5 rfl rfl ?_
 simp only [go_sem,hC,hE,hF,hM]
 refine dc 3 1 (bw.ind (ι:=Nat×List Pc×Rd×Nat) (fun i=>Rd.procs m i.1 i.2.1 i.2.2.1=some q∧i.2.2.2=i.2.1.length) (fun i=>i.1)
  (fun i=> [(0, .ptr 0 0),(2, .ptr 1 0),(3, .ptr 2 0)]) (fun i=>⟨[cb i.2.2.1,[.slice .full 0 [], .slice .full 0 []],[.slice .shared 1 (g.map encStr), .slice (.tok 0) 5 (i.2.1.map cL)]],[some i.2.2.2]⟩) ?_ (k,[],r,0) ⟨h,rfl⟩)
 rintro⟨n,l,r,k⟩ ⟨h,hk⟩ IH
 dsimp only at hk;subst hk
 cases n with
 | zero=>simp only [Rd.procs]at h;cases h
 | succ n=>
  simp only [Rd.procs,Rd.rK,Rd.oK]at h
  repeat' (first
 | simp only [go_sem,hC,hE,hF,hM]
 | (rw [Option.bind_eq_some_iff]at h;obtain⟨_,h1,h⟩:=h;first | (with_reducible refine CU (yW h1 (by with_unfolding_all rfl)) ?_;have hC:=is_lt h1) | (with_reducible refine CU (BR h1 (by with_unfolding_all rfl)) ?_) | (with_reducible refine CU (aaH h1 (by with_unfolding_all rfl)) ?_) | (obtain⟨hF,oj⟩:=fG h1;subst oj;simp only [go_sem,hC,hE,hF,hM]) | (with_reducible refine CU (nW h1 (by with_unfolding_all rfl)) ?_))
 | (with_reducible refine CU (jM (by with_unfolding_all rfl)) ?_)
 | (with_reducible first | refine bD fun hc=> ?_ | refine bE fun hc=> ?_ | refine bF (fun hc=> ?_) fun hc=> ?_) <;> (try simp only [hc,bs, ↓reduceIte]at h) <;> try simp only [hc]
 | (with_reducible refine aH hQ ?_;(try cases h);simp only [aA,aB,bM,bN,go_sem,hC,hE,hF,hM];repeat' (first | exact Ok.out | with_reducible refine aJ ?_ ?_ | (simp;done))))
  ·refine dc 3 1 (IH (n,_,_,l.length+1) ⟨h,by simp⟩ (Nat.lt_succ_self _))
end Go.Abs
