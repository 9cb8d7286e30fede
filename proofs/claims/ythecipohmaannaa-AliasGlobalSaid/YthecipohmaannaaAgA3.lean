/-
  What is proved here: the statement AliasGlobalSaid: whatever the arguments, the law, called, gives true, and of what was there nothing turns.
  No conditions.
-/
import Derived.Test.YthecipohmaannaaAgA2
import Derived.RowKit3
import Derived.WalkKit
import Derived.ProofKit
import Derived.OpenShut
import Derived.ShutString
import Derived.ChangeMaps5
import Derived.ChangeStays
import Derived.KernelRfl
import Derived.Test.YthecipohmaannaaRows

set_option linter.unusedSimpArgs false
set_option linter.unusedVariables false

/-! Tc6 -/

namespace Go.Abs
set_option maxRecDepth 8000
open Go.Proofs
def n6 (p:Pg) (out:List aD):List aD→List aD
 | []=>out
 | v::l=>n6 p (if dG p.globals v then out++ [v]else out) l
def n7 (p:Pg) (out:List aD):List Sm→List aD
 | []=>out
 | v::l=>n7 p (n6 p out v.said) l
def pS (p:Pg) (n:aD):List Sm:=match p.find n with | some f=>Sm.fb f.body | none=> []
def pd (p:Pg) (out:List aD):List aD→List aD
 | []=>out
 | n::l=>pd p (n7 p out (pS p n)) l
theorem sr (p:Pg) : ∀ (l out:List aD),out.length≤(n6 p out l).length∧(n6 p out l).length≤out.length+l.length
 | [],out=>⟨Nat.le_refl _,Nat.le_refl _⟩
 | v::l,out=>by
  simp only [n6]
  have h:=sr p l (if dG p.globals v then out++ [v]else out)
  have h2:out.length≤(if dG p.globals v then out++ [v]else out).length∧(if dG p.globals v then out++ [v]else out).length≤out.length+1:=by split <;> simp
  simp only [List.length_cons]
  omega
def kM:List Sm→Nat
 | []=>0
 | v::l=>v.said.length+kM l
theorem uv : ∀ a b:List Sm,kM (a++b)=kM a+kM b
 | [],b=>by simp [kM]
 | v::a,b=>by simp only [List.cons_append,kM,uv a b];omega
theorem MB (v:Sm):v.said.length≤1+v.x.size+2*Ar.aS v.args:=by
 have : ∀ (l:List Ar) (out:List aD),(Ar.said out l).length≤out.length+2*Ar.aS l:=by
  intro l
  induction l with
  | nil=>intro out;simp [Ar.said]
  | cons a l ih=>
   intro out
   simp only [Ar.said,Ar.aS]
   refine Nat.le_trans (ih _) ?_
   have:=hZ a.x
   have:1≤a.x.size:=by obtain⟨_,_,_,_⟩:=a.x;simp [Ex.size]
   simp only [List.length_append]
   split <;> simp <;> omega
 have h1:=this v.args (v.o8++v.x.names)
 have h2:=hZ v.x
 have h4:v.o8.length≤1:=by unfold Sm.o8;split <;> simp
 simp only [List.length_append]at h1
 unfold Sm.said
 omega
mutual
theorem Hy : ∀ s:Sm,kM s.pre≤2*s.size
 | ⟨id,kind,labels,name,proc,x,has,args,aZ,aQ⟩=>by
  simp only [Sm.pre,kM,uv,Sm.size]
  have h1:=MB ⟨id,kind,labels,name,proc,x,has,args,aZ,aQ⟩
  have h2:=pe aZ
  have h3:=pe aQ
  dsimp only at h1
  omega
theorem pe : ∀ l:List Sm,kM (Sm.fb l)≤2*Sm.aS l
 | []=>by simp [Sm.fb,kM,Sm.aS]
 | s::l=>by
  simp only [Sm.fb,uv,Sm.aS]
  have:=Hy s;have:=pe l;omega
end
theorem su (p:Pg) : ∀ (l:List Sm) (out:List aD),out.length≤(n7 p out l).length∧(n7 p out l).length≤out.length+kM l
 | [],out=>⟨Nat.le_refl _,Nat.le_refl _⟩
 | v::l,out=>by
  simp only [n7,kM]
  have h:=su p l (n6 p out v.said)
  have h2:=sr p v.said out
  omega
theorem pT {p:Pg} (h:p.kL) : ∀ (l out:List aD),out.length≤(pd p out l).length∧(pd p out l).length≤out.length+l.length*1800000
 | [],out=>⟨Nat.le_refl _,by simp [pd]⟩
 | n::l,out=>by
  simp only [pd]
  have h1:=pT h l (n7 p out (pS p n))
  have h2:=su p (pS p n) out
  have h3:kM (pS p n)≤1800000:=by
   unfold pS
   split
   ·rename_i f hf
    have:=pe f.body
    have h4:=Pc.b7 (nQ hf).1
    have h5:=h.procs.2.1
    simp only [Pc.size]at h4
    omega
   ·simp [kM]
  simp only [List.length_cons]
  omega
theorem Hz {p:Pg} (h:p.may=true):p.procs.length≤16:=by
 unfold Pg.may at h
 split at h
 ·cases h
 ·rename_i c
  simp only [Bool.or_eq_true,decide_eq_true_eq,not_or,Int.not_lt,gt_iff_lt]at c
  have:=c.1.2
  omega
def Pg.la (p:Pg) (name:aD):List aD:=pd p [] (fN (p.work name))
def Pg.jb (p:Pg) (name:aD):List aD:=match p.q6 name with | some _=>fN (p.la name) | none=> []
theorem vQ {p:Pg} (mX:(p.scope.1==0)=true) {name:aD} {f:Pc} (hf:p.find name=some f):Good p (fN (p.work name)):=by
 have h:=ur mX (p.procs.length+1) 0 [name] (vP hf)
 refine⟨mW (gC _).1,fun x m=>h.2 x ?_⟩
 exact((gC _).2 x).1 m
theorem uw {p:Pg} (h:p.kL) (name:aD) (s:St):aI Try.prog iX [.agg (bN p), .str name] s (.slice .shared 1 ((p.jb name).map encStr)) s:=by
 refine aI.pure ?_ (by simp [D.bE,D.ok,jh]) (by simp only [D.ok,Tag.ok,e9];rfl) s
 have hk:=fun s=>J4 h name s
 have c7:=fun s=>zO (p:=p) (by have:=h.procs;omega) s
 unfold Pg.jb
 unfold S0
 cases J5:p.q6 name with
 | none=>
  simp only [J5,Option.isSome_none]at hk
  simp only [List.map_nil]
  refine aI.go oS rfl fun B Q hB hQ=> ?_
  have⟨hD,hJ,hP,hY⟩:=bZ
  repeat' (first
 | simp only [go_sem,hD,hJ,hP,hY]
 | (with_reducible refine CU (hk _) ?_)
 | (with_reducible refine aJ hQ ?_;simp only [ay,az,Option.some.injEq,exists_eq_left',go_sem,hD,hJ,hP,hY];repeat' (first | exact Ok.out | with_reducible refine aM ?_ ?_ | (simp;done))))
 | some f=>
 obtain⟨mX,hf⟩:=uu J5
 simp only [J5,Option.isSome_some]at hk
 dsimp only
 obtain⟨rl,qu,vg⟩:=h.procs
 have hN:=vQ mX hf
 obtain⟨N,Pn⟩ : ∃ N,fN (p.work name)=N:=⟨_,rfl⟩
 rw [Pn]at hN
 have hNl:=hN.len
 obtain⟨R,hR⟩ : ∃ R,p.la name=R:=⟨_,rfl⟩
 rw [hR]
 unfold Pg.la at hR
 rw [Pn]at hR
 have Pk:R.length≤28800000:=by
  have:=(pT h N []).2
  rw [hR]at this
  have h4:=Hz (yS mX)
  have h3:N.length*1800000≤16*1800000:=Nat.mul_le_mul_right _ (by omega)
  simp only [List.length_nil]at this
  omega
 have Lr:=fun s=>Re h mX hf s
 simp only [Pn]at Lr
 obtain⟨fn,sU,Bq⟩:=oS
 refine aI.intro ⟨fn,sU,Bq⟩ (Nat.le_of_ble_eq_true rfl) fun B hB=> ?_
 generalize hQ:nE (⟨[],[]⟩:St).au.length (⟨[],[]⟩:St).av.length _ _ (⟨[],[]⟩:St)=Q
 have⟨hD,hJ,hP,hY⟩:=bZ
 refine Sem.oF ?_
 repeat' (first
 | simp only [go_sem,hD,hJ,hP,hY]
 | (with_reducible refine aJ hQ ?_;simp only [ay,az,Option.some.injEq,exists_eq_left',go_sem,hD,hJ,hP,hY];repeat' (first | exact Ok.out | with_reducible refine aM ?_ ?_ | (simp;done))))
 refine Sem.oF ?_
 repeat' (first
 | simp only [go_sem,hD,hJ,hP,hY]
 | (with_reducible refine CU (hk _) ?_)
 | (with_reducible refine aJ hQ ?_;simp only [ay,az,Option.some.injEq,exists_eq_left',go_sem,hD,hJ,hP,hY];repeat' (first | exact Ok.out | with_reducible refine aM ?_ ?_ | (simp;done))))
 refine Sem.oF ?_
 repeat' (first
 | simp only [go_sem,hD,hJ,hP,hY]
 | (with_reducible refine CU (c7 _) ?_)
 | (with_reducible refine aJ hQ ?_;simp only [ay,az,Option.some.injEq,exists_eq_left',go_sem,hD,hJ,hP,hY];repeat' (first | exact Ok.out | with_reducible refine aM ?_ ?_ | (simp;done))))
 refine Sem.oF ?_
 repeat' (first
 | simp only [go_sem,hD,hJ,hP,hY]
 | (with_reducible refine aJ hQ ?_;simp only [ay,az,Option.some.injEq,exists_eq_left',go_sem,hD,hJ,hP,hY];repeat' (first | exact Ok.out | with_reducible refine aM ?_ ?_ | (simp;done))))
 refine Sem.oF ?_
 repeat' (first
 | simp only [go_sem,hD,hJ,hP,hY]
 | (with_reducible refine CU (Lr _) ?_)
 | (with_reducible refine aJ hQ ?_;simp only [ay,az,Option.some.injEq,exists_eq_left',go_sem,hD,hJ,hP,hY];repeat' (first | exact Ok.out | with_reducible refine aM ?_ ?_ | (simp;done))))
 refine bp.pB 6 1 rfl ?_
 simp only [go_sem,hD,hJ,hP,hY]
 refine dD 1 1 (bp.ind (ι:=List aD×Nat×List aD×Nat) (fun i=>N.drop i.2.1=i.1∧pd p i.2.2.1 i.1=R∧i.2.2.1.length≤R.length∧i.2.2.2=i.2.2.1.length) (fun i=>i.1.length)
  (fun i=> [(2, .ptr 0 0),(5, .cV (iF p) 0),(6, .slice (.tok 0) 1 (i.2.2.1.map encStr)),(21, .slice .shared 1 (N.map encStr)),(22, .int .i64 (N.length:Int)),(23, .int .i64 (i.2.1:Int))]) (fun i=>⟨[bN p],[some i.2.2.2]⟩) ?_ (N,0,[],0) ⟨rfl,hR,Nat.zero_le _,rfl⟩)
 rintro⟨rest,k,out,no⟩ ⟨h1,h2,h3,h4⟩ IH
 dsimp only at h1 h2 h3 h4
 subst h4
 cases rest with
 | nil=>
  have hD:=drop_nil h1
  simp only [pd]at h2
  subst h2
  have w9:(ja out).length=out.length:=List.length_mergeSort out
  repeat' (first
 | simp only [go_sem,hD,hJ,hP,hY]
 | (with_reducible refine aJ hQ ?_;simp only [ay,az,Option.some.injEq,exists_eq_left',go_sem,hD,hJ,hP,hY];repeat' (first | exact Ok.out | with_reducible refine aM ?_ ?_ | (simp;done))))
  refine Sem.seq (Sem.sort (k:=6) (t:=0) (l:=out) hB (by decide) (by decide) (by decide) rfl rfl (by omega) ?_)
  refine Sem.seq (Sem.compact (k:=6) (t:=0) (l:=ja out) hB (by decide) rfl (by rw [w9];rfl) (by rw [w9];omega) ?_)
  rw [um]
  refine gw (ac:= .ret) (Q:=Q) (tm:= [(59, .slice (.tok 0) 1 ((fN out).map encStr)),(4, .slice (.tok 0) 1 ((fN out).map encStr))]) (s:=⟨[],[some (fN out).length]⟩) ?_
  repeat' (first
 | simp only [go_sem,hD,hJ,hP,hY]
 | (with_reducible refine aJ hQ ?_;simp only [ay,az,Option.some.injEq,exists_eq_left',go_sem,hD,hJ,hP,hY];repeat' (first | exact Ok.out | with_reducible refine aM ?_ ?_ | (simp;done))))
 | cons x rest=>
  obtain⟨hJ,g2,hD,g4⟩:=drop_cons h1
  have bq:k<4611686018427387904:=by omega
  obtain⟨g,Bx⟩:=hN.2 x (List.mem_of_getElem? hJ)
  have Pl:=(nQ Bx).1
  have hbd:pS p x=Sm.fb g.body:=by unfold pS;rw [Bx]
  simp only [pd,hbd]at h2
  obtain⟨j,hj,sH⟩:=uq (k:=0) Bx
  have sH:p.at x=((j:Nat):Int):=by unfold Pg.at;simpa using sH
  have yL:=fun s=>G3 (p:=p) (by omega) x s
  simp only [sH]at yL
  obtain⟨it,rG,Hq⟩:=JD hj (by omega)
  have O8:it.length≤900000:=by
   have e:=congrArg List.length rG
   obtain⟨a,b,e',_,_,e3,e4⟩:=(mb p).2 j g hj
   have e5:=mc p
   have e6:=congrArg List.length e3
   rw [e4]at e5
   simp only [List.length_map,List.length_append]at e e5 e6
   omega
  rw [← rG]at h2
  repeat' (first
 | simp only [go_sem,hD,hJ,hP,hY,hJ]
 | (with_reducible refine CU (yL _) ?_)
 | (with_reducible refine CU (Hq _) ?_)
 | (with_reducible refine aJ hQ ?_;simp only [ay,az,Option.some.injEq,exists_eq_left',go_sem,hD,hJ,hP,hY];repeat' (first | exact Ok.out | with_reducible refine aM ?_ ?_ | (simp;done))))
  obtain⟨W,hW⟩ : ∃ W,n7 p out (it.map Im.s)=W:=⟨_,rfl⟩
  rw [hW]at h2
  have hWR:W.length≤R.length:=by have:=(pT h rest W).1;rw [h2]at this;exact this
  have Hp:out.length≤W.length:=by have:=(su p (it.map Im.s) out).1;rw [hW]at this;exact this
  refine dD 1 1 (bp.ind (ι:=List Im×Nat×List aD×Nat) (fun i=>it.drop i.2.1=i.1∧n7 p i.2.2.1 (i.1.map Im.s)=W∧i.2.2.1.length≤W.length∧i.2.2.2=i.2.2.1.length) (fun i=>i.1.length)
   (fun i=> [(2, .ptr 0 0),(5, .cV (iF p) 0),(6, .slice (.tok 0) 1 (i.2.2.1.map encStr)),(21, .slice .shared 1 (N.map encStr)),(22, .int .i64 (N.length:Int)),(23, .int .i64 (k:Int)),(31, .slice .shared 17 (it.map ef)),(32, .int .i64 (it.length:Int)),(33, .int .i64 (i.2.1:Int))]) (fun i=>⟨[bN p],[some i.2.2.2]⟩) ?_ (it,0,out,out.length) ⟨rfl,hW,Hp,rfl⟩)
  rintro⟨qB,k2,vR,no⟩ ⟨j1,j2,j3,j4⟩ wU
  dsimp only at j1 j2 j3 j4
  subst j4
  cases qB with
  | nil=>
   have Ui:=drop_nil j1
   simp only [List.map_nil,n7]at j2
   subst j2
   repeat' (first
 | simp only [go_sem,hD,hJ,hP,hY,Ui]
 | (with_reducible refine aJ hQ ?_;simp only [ay,az,Option.some.injEq,exists_eq_left',go_sem,hD,hJ,hP,hY];repeat' (first | exact Ok.out | with_reducible refine aM ?_ ?_ | (simp;done))))
   refine dn 1 1 ?_ ?_ (IH (rest,k+1,vR,vR.length) ⟨g2,h2,hWR,rfl⟩ (Nat.lt_succ_self _))
   ·(simp only [go_sem,hD,hJ,hP,hY,aF bq];try exact bo)
   ·(simp only [go_sem,hD,hJ,hP,hY,aF bq];try exact bo)
  | cons y qB=>
   obtain⟨mU,CO,ui,R3⟩:=drop_cons j1
   have rI:k2<4611686018427387904:=by omega
   have hym:y.s∈Sm.fb g.body:=by rw [← rG];exact List.mem_map_of_mem (List.mem_of_getElem? mU)
   have Kv:=h.said Pl _ hym
   have Ll:=fun s=>ub Kv s
   have w9:=Bm _ Kv
   simp only [List.map_cons,n7]at j2
   repeat' (first
 | simp only [go_sem,hD,hJ,hP,hY,ui,mU]
 | (with_reducible refine CU (Ll _) ?_)
 | (with_reducible refine aJ hQ ?_;simp only [ay,az,Option.some.injEq,exists_eq_left',go_sem,hD,hJ,hP,hY];repeat' (first | exact Ok.out | with_reducible refine aM ?_ ?_ | (simp;done))))
   obtain⟨V,hV⟩ : ∃ V,n6 p vR y.s.said=V:=⟨_,rfl⟩
   rw [hV]at j2
   have hVW:V.length≤W.length:=by have:=(su p (qB.map Im.s) V).1;rw [j2]at this;exact this
   have hoV:vR.length≤V.length:=by have:=(sr p y.s.said vR).1;rw [hV]at this;exact this
   refine dD 1 1 (bp.ind (ι:=List aD×Nat×List aD×Nat) (fun i=>y.s.said.drop i.2.1=i.1∧n6 p i.2.2.1 i.1=V∧i.2.2.1.length≤V.length∧i.2.2.2=i.2.2.1.length) (fun i=>i.1.length)
    (fun i=> [(2, .ptr 0 0),(5, .cV (iF p) 0),(6, .slice (.tok 0) 1 (i.2.2.1.map encStr)),(21, .slice .shared 1 (N.map encStr)),(22, .int .i64 (N.length:Int)),(23, .int .i64 (k:Int)),(31, .slice .shared 17 (it.map ef)),(32, .int .i64 (it.length:Int)),(33, .int .i64 (k2:Int)),(39, .slice .shared 1 (y.s.said.map encStr)),(40, .int .i64 (y.s.said.length:Int)),(41, .int .i64 (i.2.1:Int))]) (fun i=>⟨[bN p],[some i.2.2.2]⟩) ?_ (y.s.said,0,vR,vR.length) ⟨rfl,hV,hoV,rfl⟩)
   rintro⟨xd,k3,sv,no⟩ ⟨l1,l2,l3,l4⟩ Sc
   dsimp only at l1 l2 l3 l4
   subst l4
   cases xd with
   | nil=>
    have Uj:=drop_nil l1
    simp only [n6]at l2
    subst l2
    repeat' (first
 | simp only [go_sem,hD,hJ,hP,hY,Uj]
 | (with_reducible refine aJ hQ ?_;simp only [ay,az,Option.some.injEq,exists_eq_left',go_sem,hD,hJ,hP,hY];repeat' (first | exact Ok.out | with_reducible refine aM ?_ ?_ | (simp;done))))
    refine dn 1 1 ?_ ?_ (wU (qB,k2+1,sv,sv.length) ⟨CO,j2,hVW,rfl⟩ (Nat.lt_succ_self _))
    ·(simp only [go_sem,hD,hJ,hP,hY,aF rI];try exact bo)
    ·(simp only [go_sem,hD,hJ,hP,hY,aF rI];try exact bo)
   | cons z xd=>
    obtain⟨Po,Sd,Se,lg4⟩:=drop_cons l1
    have Ls:k3<4611686018427387904:=by omega
    have Hx:=fun g s=>gu (l:=p.globals) (by omega) z g s
    simp only [n6]at l2
    rcases Bool.eq_false_or_eq_true (dG p.globals z)with c1 | c1
    ·simp only [c1,if_true]at l2
     have hP:(sv.length+1)*17≤bF:=by unfold bF;omega
     have hoo:(sv++ [z]).length≤V.length:=by have:=(sr p xd (sv++ [z])).1;rw [l2]at this;exact this
     repeat' (first
 | simp only [go_sem,hD,hJ,hP,hY,Se,Po,c1]
 | (with_reducible refine CU (Hx _ _) ?_)
 | (with_reducible refine aJ hQ ?_;simp only [ay,az,Option.some.injEq,exists_eq_left',go_sem,hD,hJ,hP,hY];repeat' (first | exact Ok.out | with_reducible refine aM ?_ ?_ | (simp;done))))
     refine dn 1 1 ?_ ?_ (Sc (xd,k3+1,sv++ [z],sv.length+1) ⟨Sd,l2,hoo,by simp⟩ (Nat.lt_succ_self _))
     ·(simp only [go_sem,hD,hJ,hP,hY,aF Ls,List.map_append,List.map_cons,List.map_nil,encStr];try exact bo)
     ·(simp only [go_sem,hD,hJ,hP,hY,aF Ls,List.map_append,List.map_cons,List.map_nil,encStr];try exact bo)
    ·simp only [c1,Bool.false_eq_true,if_false]at l2
     repeat' (first
 | simp only [go_sem,hD,hJ,hP,hY,Se,Po,c1]
 | (with_reducible refine CU (Hx _ _) ?_)
 | (with_reducible refine aJ hQ ?_;simp only [ay,az,Option.some.injEq,exists_eq_left',go_sem,hD,hJ,hP,hY];repeat' (first | exact Ok.out | with_reducible refine aM ?_ ?_ | (simp;done))))
     refine dn 1 1 ?_ ?_ (Sc (xd,k3+1,sv,sv.length) ⟨Sd,l2,l3,rfl⟩ (Nat.lt_succ_self _))
     ·(simp only [go_sem,hD,hJ,hP,hY,aF Ls];try exact bo)
     ·(simp only [go_sem,hD,hJ,hP,hY,aF Ls];try exact bo)
end Go.Abs

/-! Tc7 -/

namespace Go.Abs
open Go.Proofs
end Go.Abs

/-! Al1 -/

namespace Go.Abs
set_option maxRecDepth 8000
open Go.Proofs
def jL (nm:aD) (T:List aD) (seen:List aD):List Ar→Bool
 | []=>true
 | a::l=>if a.ref then(if dG seen a.name || (a.name==nm || dG T a.name)then false else jL nm T (seen++ [a.name]) l)else jL nm T seen l
def Pp (T:List aD) (seen:List aD):List Ar→Bool
 | []=>true
 | a::l=>if a.ref then(if dG seen a.name || dG T a.name then false else Pp T (seen++ [a.name]) l)else Pp T seen l
def Sm.Uk (v:Sm):List aD:=if v.name != []then [v.name]else []
theorem Bz {v:Sm} (vb:v.args.length<1000000000) {T:List aD} (hT:T.length<4611686018427387904) (s:St) :
 aI Try.prog lf [.agg (bd v), .slice .shared 1 (T.map encStr)] s (.bool (jL v.name T [] v.args)) s:=by
 refine aI.pure ?_ (by simp [D.bE,D.ok,lX,Tag.ok,e9]) rfl s
 generalize hR:jL v.name T [] v.args=R
 have Lt:=fun x s=>si hT x s
 unfold S0
 refine aI.go vG rfl fun B Q hB hQ=> ?_
 have⟨hD,hJ,hP,hY⟩:=bZ
 repeat' (first
 | simp only [go_sem,hD,hJ,hP,hY]
 | (with_reducible refine aJ hQ ?_;simp only [ay,az,Option.some.injEq,exists_eq_left',go_sem,hD,hJ,hP,hY];repeat' (first | exact Ok.out | with_reducible refine aM ?_ ?_ | (simp;done))))
 refine bp.pB 5 1 rfl ?_
 simp only [go_sem,hD,hJ,hP,hY]
 refine dD 1 1 (bp.ind (ι:=List Ar×Nat×List aD×Nat) (fun i=>v.args.drop i.2.1=i.1∧jL v.name T i.2.2.1 i.1=R∧i.2.2.1.length≤i.2.1∧i.2.2.2=i.2.2.1.length) (fun i=>i.1.length)
  (fun i=> [(1, .slice .shared 1 (T.map encStr)),(2, .ptr 0 0),(5, .slice (.tok 0) 1 (i.2.2.1.map encStr)),(9, .slice .shared 6 (v.args.map dh)),(10, .int .i64 (v.args.length:Int)),(11, .int .i64 (i.2.1:Int))]) (fun i=>⟨[bd v],[some i.2.2.2]⟩) ?_ (v.args,0,[],0) ⟨rfl,hR,Nat.le_refl _,rfl⟩)
 clear hR
 rintro⟨rest,k,seen,n'⟩ ⟨h1,h2,h3,h4⟩ IH
 dsimp only at h1 h2 h3 h4
 subst h4
 cases rest with
 | nil=>
  have hD:=drop_nil h1
  simp only [jL]at h2
  subst h2
  repeat' (first
 | simp only [go_sem,hD,hJ,hP,hY]
 | (with_reducible refine aJ hQ ?_;simp only [ay,az,Option.some.injEq,exists_eq_left',go_sem,hD,hJ,hP,hY];repeat' (first | exact Ok.out | with_reducible refine aM ?_ ?_ | (simp;done))))
 | cons a rest=>
  obtain⟨hJ,g2,hD,g4⟩:=drop_cons h1
  have bq:k<4611686018427387904:=by omega
  have hP:(seen.length+1)*17≤bF:=by unfold bF;omega
  have nn:=fun g s=>gu (l:=seen) (by omega) a.name g s
  simp only [jL]at h2
  rcases Bool.eq_false_or_eq_true a.ref with c1 | c1
  case inr=>
   simp only [c1,Bool.false_eq_true,if_false]at h2
   repeat' (first
 | simp only [go_sem,hD,hJ,hP,hY,c1,Bool.not_false]
 | (with_reducible refine aJ hQ ?_;simp only [ay,az,Option.some.injEq,exists_eq_left',go_sem,hD,hJ,hP,hY];repeat' (first | exact Ok.out | with_reducible refine aM ?_ ?_ | (simp;done))))
   refine dn 1 1 ?_ ?_ (IH (rest,k+1,seen,_) ⟨g2,h2,by dsimp only;omega,rfl⟩ (Nat.lt_succ_self _))
   ·(simp only [go_sem,hD,hJ,hP,hY,aF bq];try exact bo)
   ·(simp only [go_sem,hD,hJ,hP,hY,aF bq];try exact bo)
  simp only [c1,if_true]at h2
  rcases Bool.eq_false_or_eq_true (dG seen a.name)with c2 | c2
  ·simp only [c2,Bool.true_or,if_true]at h2
   subst h2
   repeat' (first
 | simp only [go_sem,hD,hJ,hP,hY,c1,c2,Bool.not_true]
 | (with_reducible refine CU (nn _ _) ?_)
 | (with_reducible refine CU (Lt _ _) ?_)
 | (with_reducible refine aJ hQ ?_;simp only [ay,az,Option.some.injEq,exists_eq_left',go_sem,hD,hJ,hP,hY];repeat' (first | exact Ok.out | with_reducible refine aM ?_ ?_ | (simp;done))))
  rcases Bool.eq_false_or_eq_true (a.name==v.name)with c3 | c3
  ·simp only [c2,c3,Bool.false_or,Bool.true_or,if_true]at h2
   subst h2
   repeat' (first
 | simp only [go_sem,hD,hJ,hP,hY,c1,c2,c3,Bool.not_true]
 | (with_reducible refine CU (nn _ _) ?_)
 | (with_reducible refine CU (Lt _ _) ?_)
 | (with_reducible refine aJ hQ ?_;simp only [ay,az,Option.some.injEq,exists_eq_left',go_sem,hD,hJ,hP,hY];repeat' (first | exact Ok.out | with_reducible refine aM ?_ ?_ | (simp;done))))
  rcases Bool.eq_false_or_eq_true (dG T a.name)with c4 | c4
  ·simp only [c2,c3,c4,Bool.false_or,if_true]at h2
   subst h2
   repeat' (first
 | simp only [go_sem,hD,hJ,hP,hY,c1,c2,c3,c4,Bool.not_true]
 | (with_reducible refine CU (nn _ _) ?_)
 | (with_reducible refine CU (Lt _ _) ?_)
 | (with_reducible refine aJ hQ ?_;simp only [ay,az,Option.some.injEq,exists_eq_left',go_sem,hD,hJ,hP,hY];repeat' (first | exact Ok.out | with_reducible refine aM ?_ ?_ | (simp;done))))
  ·simp only [c2,c3,c4,Bool.false_or,Bool.false_eq_true,if_false]at h2
   repeat' (first
 | simp only [go_sem,hD,hJ,hP,hY,c1,c2,c3,c4,Bool.not_true]
 | (with_reducible refine CU (nn _ _) ?_)
 | (with_reducible refine CU (Lt _ _) ?_)
 | (with_reducible refine aJ hQ ?_;simp only [ay,az,Option.some.injEq,exists_eq_left',go_sem,hD,hJ,hP,hY];repeat' (first | exact Ok.out | with_reducible refine aM ?_ ?_ | (simp;done))))
   refine dn 1 1 ?_ ?_ (IH (rest,k+1,seen++ [a.name],seen.length+1) ⟨g2,h2,by simp;omega,by simp⟩ (Nat.lt_succ_self _))
   ·(simp only [go_sem,hD,hJ,hP,hY,aF bq,List.map_append,List.map_cons,List.map_nil,encStr];try exact bo)
   ·(simp only [go_sem,hD,hJ,hP,hY,aF bq,List.map_append,List.map_cons,List.map_nil,encStr];try exact bo)
def jM (p:Pg):List Pc→List D
 | []=> []
 | f::l=> .str f.name:: .slice .shared 1 ((p.jb f.name).map encStr)::jM p l
theorem HA (p:Pg) : ∀ l,D.bE 0 0 (jM p l)=true
 | []=>rfl
 | f::l=>by simp only [jM,D.bE,D.ok,Tag.ok,e9,HA p l];rfl
theorem MC (n m:Nat) (p:Pg) (l:List Pc):D.fk n m (jM p l)=jM p l:=fw n m _ (HA p l)
attribute [go_sem] MC
theorem BA (p:Pg) : ∀ l m,jM p (l++m)=jM p l++jM p m
 | [],m=>rfl
 | f::l,m=>by simp only [List.cons_append,jM,BA p l m]
theorem BB {p:Pg} {nm:aD} {d:D} : ∀ {l:List Pc},nm∉l.map (·.name)→qE nm d (jM p l)=some (jM p l++ [.str nm,d])
 | [],_=>rfl
 | f::l,h=>by
  simp only [List.map_cons,List.mem_cons,not_or]at h
  have:(f.name==nm)=false:=by simpa using fun e=>h.1 e.symm
  simp only [jM,qE,this,Bool.false_eq_true,if_false,BB h.2,List.cons_append]
theorem BD {p:Pg} {nm:aD} {z:D} : ∀ {l:List Pc} {f:Pc},gV nm l=some f→rO nm z (jM p l)=some (.slice .shared 1 ((p.jb nm).map encStr))
 | g::l,f,h=>by
  simp only [gV]at h
  simp only [jM,rO]
  split at h
  ·rename_i e
   rw [if_pos e,eq_of_beq e]
  ·rename_i e
   rw [if_neg e]
   exact BD h
theorem MD (l:List aD) : ∀ (s:List aD),vj s l=false→∀ a x b,l=a++x::b→x∉s++a:=by
 induction l with
 | nil=>intro s _ a x b e;cases a <;> cases e
 | cons y l ih=>
  intro s h a x b e
  simp only [vj]at h
  split at h
  ·cases h
  ·rename_i hy
   cases a with
   | nil=>cases e;simpa [← jm]using hy
   | cons z a=>
    cases e
    have:=ih (s++ [y]) h a x b rfl
    simpa using this
end Go.Abs

/-! Al2 -/

namespace Go.Abs
set_option maxRecDepth 8000
open Go.Proofs
theorem vS {p:Pg} (h:(p.arity.1==0)=true):(p.scope.1==0)=true∧∀ v∈p.pre,(v.kind==4)=true→v.j6 p=true:=by
 unfold Pg.arity at h
 split at h
 ·rename_i e
  refine⟨e,fun v hv hk=> ?_⟩
  have : ∀ l:List Sm,((lM 6 (Br p l)).1==0)=true→∀ v∈l,(v.kind==4)=true→v.j6 p=true:=by
   intro l
   induction l with
   | nil=>intro _ v m;cases m
   | cons a l ih=>
    intro h v m hk
    simp only [Br]at h
    split at h
    ·cases h
    ·rename_i c
     rcases List.mem_cons.1 m with rfl | m
     ·simpa [hk]using c
     ·exact ih h v m hk
  exact this _ h v hv hk
 ·cases h
theorem HC {p:Pg} {v:Sm} (h:v.j6 p=true) : ∃ f,p.find v.proc=some f:=by
 unfold Sm.j6 at h
 cases e:p.find v.proc with
 | some f=>exact⟨f,rfl⟩
 | none=>rw [e]at h;simp at h
def Sm.mf (p:Pg) (v:Sm):Bool:=jL v.name (p.jb v.proc) [] v.args
def BE (p:Pg):List Sm→Option Sm
 | []=>none
 | v::l=>if v.kind==4 && !(v.mf p)then some v else BE p l
def Pg.alias (p:Pg):Int×Int:=if p.arity.1==0 then lM 8 (BE p p.pre)else(1,0)
theorem ux {p:Pg} (h:p.kL) (nm:aD):(p.jb nm).length<4611686018427387904:=by
 unfold Pg.jb
 cases hs:p.q6 nm with
 | none=>dsimp only;decide
 | some f=>
  obtain⟨mX,hf⟩:=uu hs
  have h1:=(vQ mX hf).len
  have h2:=h.procs
  have h3:=(pT h (fN (p.work nm)) []).2
  have h4:(fN (p.work nm)).length*1800000≤900000*1800000:=Nat.mul_le_mul_right _ (by omega)
  have h5:(fN (p.la nm)).length≤(p.la nm).length:=oz _ _ (mW (gC _).1) fun x m=>((gC _).2 x).1 m
  dsimp only
  unfold Pg.la at *
  simp only [List.length_nil]at h3
  omega
theorem sw {v:Sm} (hv:v.ko):v.args.length<1000000000:=by have:=Ar.cZ v.args;have:=hv.2.2;omega
theorem BF {p:Pg} {v:Sm} (h:p.kL) (hv:v.ko) (s:St):aI Try.prog mE [.agg (bN p), .agg (bd v)] s (.bool (p.arity.1==0 && (v.j6 p && v.mf p))) s:=by
 refine aI.pure ?_ (by simp [D.bE,D.ok,jh,lX]) rfl s
 have og:=fun s=>vN h s
 have yR:=fun s=>Mx h hv s
 have Fp:=fun s=>uw h v.proc s
 have yj:=fun s=>Bz (sw hv) (ux h v.proc) s
 have b0:(p.arity.1 != 0) = !(p.arity.1==0):=rfl
 unfold Sm.mf
 unfold S0
 rcases Bool.eq_false_or_eq_true (p.arity.1==0)with b1 | b1
 ·rw [b1]at b0
  have mX:=(vS b1).1
  simp only [mX,Bool.true_and]at yR
  simp only [b1,Bool.true_and]
  rcases Bool.eq_false_or_eq_true (v.j6 p)with b2 | b2
  all_goals
   simp only [b2,Bool.true_and,Bool.false_and]
   refine aI.go rr rfl fun B Q hB hQ=> ?_
   have⟨hD,hJ,hP,hY⟩:=bZ
   repeat' (first
 | simp only [go_sem,hD,hJ,hP,hY,b0,b2,Bool.not_true,Bool.not_false]
 | (with_reducible refine CU (og _) ?_)
 | (with_reducible refine CU (yR _) ?_)
 | (with_reducible refine CU (Fp _) ?_)
 | (with_reducible refine CU (yj _) ?_)
 | (with_reducible refine aJ hQ ?_;simp only [ay,az,Option.some.injEq,exists_eq_left',go_sem,hD,hJ,hP,hY];repeat' (first | exact Ok.out | with_reducible refine aM ?_ ?_ | (simp;done))))
 ·rw [b1]at b0
  simp only [b1,Bool.false_and]
  refine aI.go rr rfl fun B Q hB hQ=> ?_
  have⟨hD,hJ,hP,hY⟩:=bZ
  repeat' (first
 | simp only [go_sem,hD,hJ,hP,hY,b0,Bool.not_false]
 | (with_reducible refine CU (og _) ?_)
 | (with_reducible refine aJ hQ ?_;simp only [ay,az,Option.some.injEq,exists_eq_left',go_sem,hD,hJ,hP,hY];repeat' (first | exact Ok.out | with_reducible refine aM ?_ ?_ | (simp;done))))
theorem zb {p:Pg} (h:p.kL) (s:St):aI Try.prog lP [.agg (bN p)] s (.agg [.int .i64 p.alias.1, .int .i64 p.alias.2]) s:=by
 refine aI.pure ?_ (by simp [D.bE,D.ok,jh]) rfl s
 obtain⟨rl,qu,vg⟩:=h.procs
 have og:=fun s=>vN h s
 have c7:=fun s=>zO (p:=p) (by omega) s
 have hL:=(mb p).1
 have Lp:=mc p
 generalize hR:p.alias=R
 simp only [Pg.alias]at hR
 unfold S0
 have b0:(p.arity.1 != 0) = !(p.arity.1==0):=rfl
 rcases Bool.eq_false_or_eq_true (p.arity.1==0)with b1 | b1
 case inr=>
  rw [b1]at b0
  simp only [b1,Bool.false_eq_true,if_false]at hR
  subst hR
  refine aI.go qo rfl fun B Q hB hQ=> ?_
  have⟨hD,hJ,hP,hY⟩:=bZ
  repeat' (first
 | simp only [go_sem,hD,hJ,hP,hY,b0,Bool.not_false]
 | (with_reducible refine CU (og _) ?_)
 | (with_reducible refine aJ hQ ?_;simp only [ay,az,Option.some.injEq,exists_eq_left',go_sem,hD,hJ,hP,hY];repeat' (first | exact Ok.out | with_reducible refine aM ?_ ?_ | (simp;done))))
 rw [b1]at b0
 obtain⟨mX,iu⟩:=vS b1
 have htw:=(Bw mX).2.1
 simp only [b1,if_true, ← hL]at hR
 refine aI.go qo rfl fun B Q hB hQ=> ?_
 have⟨hD,hJ,hP,hY⟩:=bZ
 repeat' (first
 | simp only [go_sem,hD,hJ,hP,hY,b0,Bool.not_true]
 | (with_reducible refine CU (og _) ?_)
 | (with_reducible refine aJ hQ ?_;simp only [ay,az,Option.some.injEq,exists_eq_left',go_sem,hD,hJ,hP,hY];repeat' (first | exact Ok.out | with_reducible refine aM ?_ ?_ | (simp;done))))
 refine dn 3 0 ?_ ?_ (bp.ind (ι:=List Pc×Nat×List Pc) (fun i=>p.procs.drop i.2.1=i.1∧p.procs=i.2.2++i.1) (fun i=>i.1.length)
  (fun i=> [(1, .ptr 0 0),(2, .ptr 1 0),(3, .eR 2),(15, .slice .shared 5 (p.procs.map bL)),(16, .int .i64 (p.procs.length:Int)),(17, .int .i64 (i.2.1:Int))]) (fun i=>⟨[bN p,[.int .i64 0, .int .i64 0],jM p i.2.2],[]⟩) ?_ (p.procs,0,[]) ⟨rfl,rfl⟩)
 ·(simp only [go_sem,hD,hJ,hP,hY,jM];try exact bo)
 ·(simp only [go_sem,hD,hJ,hP,hY,jM];try exact bo)
 rintro⟨rest,k,done⟩ ⟨h1,h2⟩ IH
 dsimp only at h1 h2
 cases rest with
 | cons a rest=>
  obtain⟨hJ,g2,hD,g4⟩:=drop_cons h1
  have bq:k<4611686018427387904:=by omega
  have Fp:=fun s=>uw h a.name s
  have OX:a.name∉done.map (·.name):=by
   have:=MD _ [] htw (done.map (·.name)) a.name (rest.map (·.name)) (by simp [Pg.pn,h2])
   simpa using this
  have hmp:qE a.name (.slice .shared 1 ((p.jb a.name).map encStr)) (jM p done)=some (jM p (done++ [a])):=by
   rw [BB OX,BA];rfl
  repeat' (first
 | simp only [go_sem,hD,hJ,hP,hY,hmp]
 | (with_reducible refine CU (Fp _) ?_)
 | (with_reducible refine aJ hQ ?_;simp only [ay,az,Option.some.injEq,exists_eq_left',go_sem,hD,hJ,hP,hY];repeat' (first | exact Ok.out | with_reducible refine aM ?_ ?_ | (simp;done))))
  refine dn 3 0 ?_ ?_ (IH (rest,k+1,done++ [a]) ⟨g2,by rw [h2];simp⟩ (Nat.lt_succ_self _))
  ·(simp only [go_sem,hD,hJ,hP,hY,aF bq];try exact bo)
  ·(simp only [go_sem,hD,hJ,hP,hY,aF bq];try exact bo)
 | nil=>
  have hD:=drop_nil h1
  rw [List.append_nil]at h2
  subst h2
  repeat' (first
 | simp only [go_sem,hD,hJ,hP,hY,sh]
 | (with_reducible refine CU (c7 _) ?_)
 | (with_reducible refine aJ hQ ?_;simp only [ay,az,Option.some.injEq,exists_eq_left',go_sem,hD,hJ,hP,hY];repeat' (first | exact Ok.out | with_reducible refine aM ?_ ?_ | (simp;done))))
  refine dD 3 0 (bp.ind (ι:=List Im×Nat) (fun i=>p.dQ.L.drop i.2=i.1∧lM 8 (BE p (i.1.map Im.s))=R) (fun i=>i.1.length)
   (fun i=> [(1, .ptr 0 0),(2, .ptr 1 0),(3, .eR 2),(33, .slice .shared 17 (p.dQ.L.map ef)),(34, .int .i64 (p.dQ.L.length:Int)),(35, .int .i64 (i.2:Int))]) (fun i=>⟨[bN p,[.int .i64 0, .int .i64 0],jM p p.procs],[]⟩) ?_ (p.dQ.L,0) ⟨rfl,hR⟩)
  clear hR
  rintro⟨rest,k⟩ ⟨h1,hR⟩ IH
  dsimp only at h1 hR
  cases rest with
  | nil=>
   have hD:=drop_nil h1
   simp only [List.map_nil,BE,lM]at hR
   subst hR
   repeat' (first
 | simp only [go_sem,hD,hJ,hP,hY]
 | (with_reducible refine aJ hQ ?_;simp only [ay,az,Option.some.injEq,exists_eq_left',go_sem,hD,hJ,hP,hY];repeat' (first | exact Ok.out | with_reducible refine aM ?_ ?_ | (simp;done))))
  | cons a rest=>
   obtain⟨hJ,g2,hD,g4⟩:=drop_cons h1
   have bq:k<4611686018427387904:=by omega
   have yO:a.s∈p.pre:=by rw [← hL];exact List.mem_map_of_mem (List.mem_of_getElem? hJ)
   have yj:=fun s=>Bz (sw (h.pre _ yO)) (ux h a.s.proc) s
   simp only [List.map_cons,BE,Sm.mf]at hR
   rcases Bool.eq_false_or_eq_true (a.s.kind==4)with c1 | c1
   ·obtain⟨f,hf⟩:=HC (iu _ yO c1)
    have Sf:=fun z=>BD (p:=p) (z:=z) hf
    rcases Bool.eq_false_or_eq_true (jL a.s.name (p.jb a.s.proc) [] a.s.args)with c2 | c2
    ·simp only [c1,c2,Bool.not_true,Bool.and_false,Bool.false_eq_true,if_false]at hR
     repeat' (first
 | simp only [go_sem,hD,hJ,hP,hY,c1,c2,Sf]
 | (with_reducible refine CU (yj _) ?_)
 | (with_reducible refine aJ hQ ?_;simp only [ay,az,Option.some.injEq,exists_eq_left',go_sem,hD,hJ,hP,hY];repeat' (first | exact Ok.out | with_reducible refine aM ?_ ?_ | (simp;done))))
     refine dn 3 0 ?_ ?_ (IH (rest,k+1) ⟨g2,hR⟩ (Nat.lt_succ_self _))
     ·(simp only [go_sem,hD,hJ,hP,hY,aF bq];try exact bo)
     ·(simp only [go_sem,hD,hJ,hP,hY,aF bq];try exact bo)
    ·simp only [c1,c2,Bool.not_false,Bool.and_true,if_true,lM]at hR
     subst hR
     repeat' (first
 | simp only [go_sem,hD,hJ,hP,hY,c1,c2,Sf]
 | (with_reducible refine CU (yj _) ?_)
 | (with_reducible refine aJ hQ ?_;simp only [ay,az,Option.some.injEq,exists_eq_left',go_sem,hD,hJ,hP,hY];repeat' (first | exact Ok.out | with_reducible refine aM ?_ ?_ | (simp;done))))
   ·simp only [c1,Bool.false_and,Bool.false_eq_true,if_false]at hR
    repeat' (first
 | simp only [go_sem,hD,hJ,hP,hY,c1]
 | (with_reducible refine CU (yj _) ?_)
 | (with_reducible refine aJ hQ ?_;simp only [ay,az,Option.some.injEq,exists_eq_left',go_sem,hD,hJ,hP,hY];repeat' (first | exact Ok.out | with_reducible refine aM ?_ ?_ | (simp;done))))
    refine dn 3 0 ?_ ?_ (IH (rest,k+1) ⟨g2,hR⟩ (Nat.lt_succ_self _))
    ·(simp only [go_sem,hD,hJ,hP,hY,aF bq];try exact bo)
    ·(simp only [go_sem,hD,hJ,hP,hY,aF bq];try exact bo)
end Go.Abs

/-! Al3 -/

namespace Go.Abs
open Go.Proofs
def Sm.Pq (p:Pg) (v:Sm):Bool:=v.j6 p && Pp (p.jb v.proc) v.Uk v.args
def apF (p:Pg):List Sm→Option Sm
 | []=>none
 | v::l=>if v.kind==4 && !(v.Pq p)then some v else apF p l
end Go.Abs

/-! Prs3 -/

namespace Go.Abs
open Go.Proofs
end Go.Abs

/-! Prs4 -/

namespace Go.Abs
open Go.Proofs
end Go.Abs

/-! Prs5 -/

namespace Go.Abs
open Go.Proofs
end Go.Abs

/-! Prs6 -/

namespace Go.Abs
open Go.Proofs
end Go.Abs

/-! Lex3 -/

namespace Go.Abs
open Go.Proofs
end Go.Abs

/-! MirParse -/

namespace Go.Abs
def Sg (l:List lI):Rd:=⟨l,0,0,0,0⟩
def aa2 (m:Nat) (text:aD):Option (Pg×Int×Int):=
 if(rC text).2.1 != 0 then some (Gx,(rC text).2)
 else(Rd.program m (Sg (rC text).1)).bind fun p=>if p.2.code != 0 then some (Gx,p.2.code,p.2.AZ)else(p.1.Mg).bind fun q=>some (q,0,0)
def aby (m:Nat) (text:aD):Option (Ex×Int×Int):=
 if(rC text).2.1 != 0 then some (mC,(rC text).2)
 else(Rd.whole m (Sg (rC text).1)).bind fun x=>x.2.GN.bind fun b=>
  if b then(x.2.bad 3).bind fun r=>if !r.good then some (mC,r.code,r.AZ)else some (x.1,0,0)
  else if !x.2.good then some (mC,x.2.code,x.2.AZ)else some (x.1,0,0)
end Go.Abs

/-! Prs7 -/

namespace Go.Abs
open Go.Proofs
end Go.Abs

/-! Room1 -/

namespace Go.Abs
set_option maxRecDepth 8000
open Go.Proofs
def q7 (n k:Int):Int:=if Int.tmod n k<0 then Int.tmod n k+k else Int.tmod n k
theorem ME (n:Int) {k:Int} (hk:1≤k):0≤q7 n k∧q7 n k<k:=by
 unfold q7
 have h1:=Int.tmod_lt_of_pos n (by omega:0<k)
 have h2:=Int.lt_tmod_of_pos n (by omega:0<k)
 split <;> omega
theorem Rf (n:Int) {k:Int} (hk:1≤k) (bq:k<1000000) (s:St):aI Try.prog sa [.int .i64 n, .int .i64 k] s (.int .i64 (q7 n k)) s:=by
 refine aI.pure ?_ rfl rfl s
 have h1:=Int.tmod_lt_of_pos n (by omega:0<k)
 have h2:=Int.lt_tmod_of_pos n (by omega:0<k)
 have c1:decide (k<1)=false:=by simp;omega
 have w1:IntKind.wrap .i64 (Int.tmod n k)=Int.tmod n k:=dj (by omega) (by omega)
 have w2:IntKind.wrap .i64 (Int.tmod n k+k)=Int.tmod n k+k:=dj (by omega) (by omega)
 have k0:(k=0)=False:=by simp;omega
 unfold S0
 by_cases hm:Int.tmod n k<0
 ·have c2:decide (Int.tmod n k<0)=true:=by simp;omega
  rw [show q7 n k=Int.tmod n k+k from if_pos hm]
  refine aI.go tT rfl fun B Q hB hQ=> ?_
  have⟨hD,hJ,hP,hY⟩:=bZ
  repeat' (first
 | simp only [go_sem,hD,hJ,hP,hY,c1,c2,w1,w2,k0]
 | (with_reducible first | refine cy fun hc=> ?_ | refine cz fun hc=> ?_ | refine cA (fun hc=> ?_) fun hc=> ?_) <;> (try simp only [hc,bs, ↓reduceIte]at h) <;> try simp only [hc]
 | (with_reducible refine aJ hQ ?_;(try cases h);simp only [ay,az,c9,da,go_sem,hD,hJ,hP,hY,c1,c2,w1,w2,k0];try exact lq)
 | (cases h;done))
 ·have c2:decide (Int.tmod n k<0)=false:=by simp;omega
  rw [show q7 n k=Int.tmod n k from if_neg hm]
  refine aI.go tT rfl fun B Q hB hQ=> ?_
  have⟨hD,hJ,hP,hY⟩:=bZ
  repeat' (first
 | simp only [go_sem,hD,hJ,hP,hY,c1,c2,w1,w2,k0]
 | (with_reducible first | refine cy fun hc=> ?_ | refine cz fun hc=> ?_ | refine cA (fun hc=> ?_) fun hc=> ?_) <;> (try simp only [hc,bs, ↓reduceIte]at h) <;> try simp only [hc]
 | (with_reducible refine aJ hQ ?_;(try cases h);simp only [ay,az,c9,da,go_sem,hD,hJ,hP,hY,c1,c2,w1,w2,k0];try exact lq)
 | (cases h;done))
def Rg (t:aD):Nat→aD
 | 0=> []
 | n+1=>Rg t n++t
def two (i:Nat):aD:= [UInt8.ofNat (48+i / 10),UInt8.ofNat (48+i % 10)]
def Pr (ahead:aD):Nat→aD
 | 0=> []
 | n+1=>(if n=0 then Pr ahead n else Pr ahead n++ [44])++(ahead++ [97]++two n)
def Ps:Nat→aD
 | 0=> []
 | n+1=>Ps n++([112,114,111,99,32,112]++two n++ [40,41,123,125])
end Go.Abs

/-! Al4 -/

namespace Go.Abs
set_option maxRecDepth 8000
open Go.Proofs
def iL (k:Int):List It→List Int
 | []=> []
 | i::l=>if k==0 || i.s.kind==k then i.s.id::iL k l else iL k l
theorem vT (k:Int) : ∀ l,(iL k l).length≤l.length
 | []=>Nat.le_refl _
 | i::l=>by
  have:=vT k l
  simp only [iL]
  split <;> simp <;> omega
theorem Rh {p:Pg} (hs:Pc.aS p.procs<4611686018427387000) (Lp:p.all.length≤1000) (kd:Int) (s:St):aI Try.prog sb [.agg (bN p), .int .i64 kd] s (.slice .shared 1 ((iL kd p.all).map fl)) s:=by
 refine aI.pure ?_ (by simp [D.bE,D.ok,jh]) (by simp only [D.ok,Tag.ok,pM];rfl) s
 have vb:=fun s=>Q5 hs s
 obtain⟨R,hR⟩ : ∃ R,iL kd p.all=R:=⟨_,rfl⟩
 rw [hR]
 have Pk:R.length≤1000:=by rw [← hR];exact Nat.le_trans (vT kd p.all) Lp
 unfold S0
 refine aI.go A4 rfl fun B Q hB hQ=> ?_
 have⟨hD,hJ,hP,hY⟩:=bZ
 repeat' (first
 | simp only [go_sem,hD,hJ,hP,hY]
 | (with_reducible refine CU (vb _) ?_)
 | (with_reducible refine aJ hQ ?_;simp only [ay,az,Option.some.injEq,exists_eq_left',go_sem,hD,hJ,hP,hY];repeat' (first | exact Ok.out | with_reducible refine aM ?_ ?_ | (simp;done))))
 refine bp.pB 5 1 rfl ?_
 simp only [go_sem,hD,hJ,hP,hY]
 refine dD 1 1 (bp.ind (ι:=List It×Nat×List Int×Nat) (fun i=>p.all.drop i.2.1=i.1∧i.2.2.1++iL kd i.1=R∧i.2.2.2=i.2.2.1.length) (fun i=>i.1.length)
  (fun i=> [(1, .int .i64 kd),(2, .ptr 0 0),(5, .slice (.tok 0) 1 (i.2.2.1.map fl)),(9, .slice .shared 16 (p.all.map dR)),(10, .int .i64 (p.all.length:Int)),(11, .int .i64 (i.2.1:Int))]) (fun i=>⟨[bN p],[some i.2.2.2]⟩) ?_ (p.all,0,[],0) ⟨rfl,hR,rfl⟩)
 clear hR
 rintro⟨rest,k,out,n'⟩ ⟨h1,h2,h3⟩ IH
 dsimp only at h1 h2 h3
 subst h3
 have ln:out.length≤1000:=by have:=congrArg List.length h2;rw [List.length_append]at this;omega
 cases rest with
 | nil=>
  have hD:=drop_nil h1
  simp only [iL,List.append_nil]at h2
  subst h2
  repeat' (first
 | simp only [go_sem,hD,hJ,hP,hY]
 | (with_reducible refine aJ hQ ?_;simp only [ay,az,Option.some.injEq,exists_eq_left',go_sem,hD,hJ,hP,hY];repeat' (first | exact Ok.out | with_reducible refine aM ?_ ?_ | (simp;done))))
 | cons a rest=>
  obtain⟨hJ,g2,hD,g4⟩:=drop_cons h1
  have bq:k<4611686018427387904:=by omega
  have hP:(out.length+1)*9≤bF:=by unfold bF;omega
  simp only [iL]at h2
  rcases Bool.eq_false_or_eq_true (kd==0)with c1 | c1
  ·simp only [c1,Bool.true_or,if_true]at h2
   repeat' (first
 | simp only [go_sem,hD,hJ,hP,hY,c1]
 | (with_reducible refine aJ hQ ?_;simp only [ay,az,Option.some.injEq,exists_eq_left',go_sem,hD,hJ,hP,hY];repeat' (first | exact Ok.out | with_reducible refine aM ?_ ?_ | (simp;done))))
   refine dn 1 1 ?_ ?_ (IH (rest,k+1,out++ [a.s.id],out.length+1) ⟨g2,by rw [← h2];simp,by simp⟩ (Nat.lt_succ_self _))
   ·(simp only [go_sem,hD,hJ,hP,hY,aF bq,List.map_append,List.map_cons,List.map_nil,fl];try exact bo)
   ·(simp only [go_sem,hD,hJ,hP,hY,aF bq,List.map_append,List.map_cons,List.map_nil,fl];try exact bo)
  rcases Bool.eq_false_or_eq_true (a.s.kind==kd)with c2 | c2
  ·simp only [c1,c2,Bool.or_true,if_true]at h2
   repeat' (first
 | simp only [go_sem,hD,hJ,hP,hY,c1,c2]
 | (with_reducible refine aJ hQ ?_;simp only [ay,az,Option.some.injEq,exists_eq_left',go_sem,hD,hJ,hP,hY];repeat' (first | exact Ok.out | with_reducible refine aM ?_ ?_ | (simp;done))))
   refine dn 1 1 ?_ ?_ (IH (rest,k+1,out++ [a.s.id],out.length+1) ⟨g2,by rw [← h2];simp,by simp⟩ (Nat.lt_succ_self _))
   ·(simp only [go_sem,hD,hJ,hP,hY,aF bq,List.map_append,List.map_cons,List.map_nil,fl];try exact bo)
   ·(simp only [go_sem,hD,hJ,hP,hY,aF bq,List.map_append,List.map_cons,List.map_nil,fl];try exact bo)
  ·simp only [c1,c2,Bool.or_false,Bool.false_eq_true,if_false]at h2
   repeat' (first
 | simp only [go_sem,hD,hJ,hP,hY,c1,c2]
 | (with_reducible refine aJ hQ ?_;simp only [ay,az,Option.some.injEq,exists_eq_left',go_sem,hD,hJ,hP,hY];repeat' (first | exact Ok.out | with_reducible refine aM ?_ ?_ | (simp;done))))
   refine dn 1 1 ?_ ?_ (IH (rest,k+1,out,_) ⟨g2,h2,rfl⟩ (Nat.lt_succ_self _))
   ·(simp only [go_sem,hD,hJ,hP,hY,aF bq];try exact bo)
   ·(simp only [go_sem,hD,hJ,hP,hY,aF bq];try exact bo)
def jc (l:List Int) (n:Int):Int:=match l[(q7 n l.length).toNat]? with | some x=>x | none=>0
theorem Pt {l:List Int} (hl:l.length<1000000) (n:Int) (s:St):aI Try.prog qP [.slice .shared 1 (l.map fl), .int .i64 n] s (.int .i64 (jc l n)) s:=by
 refine aI.pure ?_ (by simp [D.bE,D.ok,Tag.ok,pM]) rfl s
 unfold S0
 by_cases hz:l.length=0
 ·have hz':l = []:=List.eq_nil_of_length_eq_zero hz
  have c1:((l.length:Int)==0)=true:=by rw [hz];rfl
  have e:jc l n=0:=by unfold jc;rw [hz'];rfl
  rw [e]
  refine aI.go sO rfl fun B Q hB hQ=> ?_
  have⟨hD,hJ,hP,hY⟩:=bZ
  repeat' (first
 | simp only [go_sem,hD,hJ,hP,hY,c1]
 | (with_reducible refine aJ hQ ?_;simp only [ay,az,Option.some.injEq,exists_eq_left',go_sem,hD,hJ,hP,hY];repeat' (first | exact Ok.out | with_reducible refine aM ?_ ?_ | (simp;done))))
 ·have c1:((l.length:Int)==0)=false:=by simp only [beq_eq_false_iff_ne,ne_eq];omega
  have hk:=ME n (k:=(l.length:Int)) (by omega)
  have hm:=fun s=>Rf n (k:=(l.length:Int)) (by omega) (by omega) s
  obtain⟨j,hj⟩ : ∃ j:Nat,q7 n l.length=(j:Int):=⟨(q7 n l.length).toNat,(Int.toNat_of_nonneg hk.1).symm⟩
  have KS:j<l.length:=by have h2:=hk.2;rw [hj]at h2;omega
  obtain⟨f,hf⟩ : ∃ f,l[j]? = some f:=⟨_,List.getElem?_eq_getElem KS⟩
  have e:jc l n=f:=by unfold jc;rw [hj,Int.toNat_natCast,hf]
  rw [hj]at hm
  rw [e]
  have sJ:decide ((j:Int)<(l.length:Int))=true:=by simp;omega
  refine aI.go sO rfl fun B Q hB hQ=> ?_
  have⟨hD,hJ,hP,hY⟩:=bZ
  repeat' (first
 | simp only [go_sem,hD,hJ,hP,hY,c1,hf,sJ,fl]
 | (with_reducible refine CU (hm _) ?_)
 | (with_reducible refine aJ hQ ?_;simp only [ay,az,Option.some.injEq,exists_eq_left',go_sem,hD,hJ,hP,hY];repeat' (first | exact Ok.out | with_reducible refine aM ?_ ?_ | (simp;done))))
def pf (id:Int):List It→Option It
 | []=>none
 | i::l=>if i.s.id==id then some i else pf id l
def jx (id:Int):List Pc→Option (It×aD)
 | []=>none
 | f::l=>match pf id f.flat with | some i=>some (i,f.name) | none=>jx id l
def Pu:It:=⟨AW,0,0,false⟩
def j7 (r:Option (It×aD)):D:=match r with
 | some (i,nm)=> .tuple [.agg (dR i), .str nm, .bool true]
 | none=> .tuple [.agg (dR Pu), .str [], .bool false]
theorem MF (r:Option (It×aD)):D.ok 0 0 (j7 r)=true:=by cases r <;> simp [j7,D.ok,D.bE,EZ]
theorem xe:dR Pu = [.int .i64 0, .int .i64 0, .slice .shared 1 [], .str [], .str [], .int .i64 0, .int .i64 0, .str [], .slice .shared 4 [], .bool false, .slice .shared 6 [], .slice .shared 13 [], .slice .shared 13 [], .int .i64 0, .int .i64 0, .bool false]:=nd rfl
theorem Pv {p:Pg} (hs:Pc.aS p.procs<4611686018427387000) (hp:p.procs.length<1000000) (id:Int) (s:St):aI Try.prog qU [.agg (bN p), .int .i64 id] s (j7 (jx id p.procs)) s:=by
 refine aI.pure ?_ (by simp [D.bE,D.ok,jh]) (MF _) s
 obtain⟨R,hR⟩ : ∃ R,jx id p.procs=R:=⟨_,rfl⟩
 rw [hR]
 unfold S0
 refine aI.go zq rfl fun B Q hB hQ=> ?_
 have⟨hD,hJ,hP,hY⟩:=bZ
 repeat' (first
 | simp only [go_sem,hD,hJ,hP,hY]
 | (with_reducible first | refine cy fun hc=> ?_ | refine cz fun hc=> ?_ | refine cA (fun hc=> ?_) fun hc=> ?_) <;> (try simp only [hc,bs, ↓reduceIte]at h) <;> try simp only [hc]
 | (with_reducible refine aJ hQ ?_;simp only [ay,az,c9,da,go_sem,hD,hJ,hP,hY];repeat' (first | exact Ok.out | with_reducible refine aM ?_ ?_ | (simp;done))))
 refine dD 2 0 (bp.ind (ι:=List Pc×Nat) (fun i=>p.procs.drop i.2=i.1∧jx id i.1=R) (fun i=>i.1.length)
  (fun i=> [(1, .int .i64 id),(2, .ptr 0 0),(4, .ptr 1 0),(5, .str []),(6, .bool false),(12, .slice .shared 5 (p.procs.map bL)),(13, .int .i64 (p.procs.length:Int)),(14, .int .i64 (i.2:Int))]) (fun i=>⟨[bN p,[.int .i64 0, .int .i64 0, .slice .full 0 [], .str [], .str [], .int .i64 0, .int .i64 0, .str [], .slice .full 0 [], .bool false, .slice .full 0 [], .slice .full 0 [], .slice .full 0 [], .int .i64 0, .int .i64 0, .bool false]],[]⟩) ?_ (p.procs,0) ⟨rfl,hR⟩)
 clear hR
 rintro⟨rest,k⟩ ⟨h1,h2⟩ IH
 dsimp only at h1 h2
 cases rest with
 | nil=>
  have hD:=drop_nil h1
  simp only [jx]at h2
  subst h2
  repeat' (first
 | simp only [go_sem,hD,hJ,hP,hY,j7,xe]
 | (with_reducible first | refine cy fun hc=> ?_ | refine cz fun hc=> ?_ | refine cA (fun hc=> ?_) fun hc=> ?_) <;> (try simp only [hc,bs, ↓reduceIte]at h) <;> try simp only [hc]
 | (with_reducible refine aJ hQ ?_;simp only [ay,az,c9,da,go_sem,hD,hJ,hP,hY,j7,xe];repeat' (first | exact Ok.out | with_reducible refine aM ?_ ?_ | (simp;done))))
 | cons f rest=>
  obtain⟨hJ,g2,hD,g4⟩:=drop_cons h1
  have bq:k<4611686018427387904:=by omega
  have ke:=fun s=>G9 (f:=f) (by have:=Pc.b7 (List.mem_of_getElem? hJ);unfold Pc.size at this;omega) s
  have abT:=Pc.Be f
  simp only [jx]at h2
  repeat' (first
 | simp only [go_sem,hD,hJ,hP,hY]
 | (with_reducible refine CU (ke _) ?_)
 | (with_reducible refine aJ hQ ?_;simp only [ay,az,c9,da,go_sem,hD,hJ,hP,hY];repeat' (first | exact Ok.out | with_reducible refine aM ?_ ?_ | (simp;done))))
  refine dD 3 0 (bp.ind (ι:=List It×Nat) (fun i=>f.flat.drop i.2=i.1∧(match pf id i.1 with | some i=>some (i,f.name) | none=>jx id rest)=R) (fun i=>i.1.length)
   (fun i=> [(1, .int .i64 id),(2, .ptr 0 0),(4, .ptr 1 0),(5, .str []),(6, .bool false),(8, .ptr 2 0),(12, .slice .shared 5 (p.procs.map bL)),(13, .int .i64 (p.procs.length:Int)),(14, .int .i64 (k:Int)),
    (19, .slice .shared 16 (f.flat.map dR)),(20, .int .i64 (f.flat.length:Int)),(21, .int .i64 (i.2:Int))]) (fun i=>⟨[bN p,[.int .i64 0, .int .i64 0, .slice .full 0 [], .str [], .str [], .int .i64 0, .int .i64 0, .str [], .slice .full 0 [], .bool false, .slice .full 0 [], .slice .full 0 [], .slice .full 0 [], .int .i64 0, .int .i64 0, .bool false],bL f],[]⟩) ?_ (f.flat,0) ⟨rfl,h2⟩)
  clear h2
  rintro⟨qB,k'⟩ ⟨j1,j2⟩ wU
  dsimp only at j1 j2
  cases qB with
  | nil=>
   have Pw:=drop_nil j1
   simp only [pf]at j2
   repeat' (first
 | simp only [go_sem,hD,hJ,hP,hY,Pw]
 | (with_reducible first | refine cy fun hc=> ?_ | refine cz fun hc=> ?_ | refine cA (fun hc=> ?_) fun hc=> ?_) <;> (try simp only [hc,bs, ↓reduceIte]at h) <;> try simp only [hc]
 | (with_reducible refine aJ hQ ?_;simp only [ay,az,c9,da,go_sem,hD,hJ,hP,hY,Pw];repeat' (first | exact Ok.out | with_reducible refine aM ?_ ?_ | (simp;done))))
   refine dn 2 0 ?_ ?_ (IH (rest,k+1) ⟨g2,j2⟩ (Nat.lt_succ_self _))
   ·(simp only [go_sem,hD,hJ,hP,hY,aF bq];try exact bo)
   ·(simp only [go_sem,hD,hJ,hP,hY,aF bq];try exact bo)
  | cons a qB=>
   obtain⟨mU,j3,ui,j4⟩:=drop_cons j1
   have rI:k'<4611686018427387904:=by omega
   simp only [pf]at j2
   rcases Bool.eq_false_or_eq_true (a.s.id==id)with c1 | c1
   ·simp only [c1,if_true]at j2
    subst j2
    repeat' (first
 | simp only [go_sem,hD,hJ,hP,hY,mU,ui,c1,j7,xe]
 | (with_reducible first | refine cy fun hc=> ?_ | refine cz fun hc=> ?_ | refine cA (fun hc=> ?_) fun hc=> ?_) <;> (try simp only [hc,bs, ↓reduceIte]at h) <;> try simp only [hc]
 | (with_reducible refine aJ hQ ?_;simp only [ay,az,c9,da,go_sem,hD,hJ,hP,hY,mU,ui,c1,j7,xe];repeat' (first | exact Ok.out | with_reducible refine aM ?_ ?_ | (simp;done))))
   ·simp only [c1,Bool.false_eq_true,if_false]at j2
    repeat' (first
 | simp only [go_sem,hD,hJ,hP,hY,mU,ui,c1]
 | (with_reducible refine aJ hQ ?_;simp only [ay,az,c9,da,go_sem,hD,hJ,hP,hY];repeat' (first | exact Ok.out | with_reducible refine aM ?_ ?_ | (simp;done))))
    refine dn 3 0 ?_ ?_ (wU (qB,k'+1) ⟨j3,j2⟩ (Nat.lt_succ_self _))
    ·(simp only [go_sem,hD,hJ,hP,hY,aF rI];try exact bo)
    ·(simp only [go_sem,hD,hJ,hP,hY,aF rI];try exact bo)
def Pg.j8 (p:Pg) (id:Int):Sm:=match jx id p.procs with | some (i,_)=>i.s | none=>AW
theorem Px {p:Pg} (hs:Pc.aS p.procs<4611686018427387000) (hp:p.procs.length<1000000) (id:Int) (s:St):aI Try.prog qQ [.agg (bN p), .int .i64 id] s (.agg (bd (p.j8 id))) s:=by
 refine aI.pure ?_ (by simp [D.bE,D.ok,jh]) (by simp [D.ok,lX]) s
 have hf:=fun s=>Pv hs hp id s
 unfold Pg.j8
 generalize jx id p.procs=r at hf ⊢
 unfold S0
 cases r with
 | none=>
  simp only [j7]at hf
  refine aI.go sP rfl fun B Q hB hQ=> ?_
  have⟨hD,hJ,hP,hY⟩:=bZ
  repeat' (first
 | simp only [go_sem,hD,hJ,hP,hY,Bc,Pu]
 | (with_reducible refine CU (hf _) ?_)
 | (with_reducible refine aJ hQ ?_;simp only [ay,az,Option.some.injEq,exists_eq_left',go_sem,hD,hJ,hP,hY];repeat' (first | exact Ok.out | with_reducible refine aM ?_ ?_ | (simp;done))))
 | some x=>
  obtain⟨i,nm⟩:=x
  simp only [j7]at hf
  refine aI.go sP rfl fun B Q hB hQ=> ?_
  have⟨hD,hJ,hP,hY⟩:=bZ
  repeat' (first
 | simp only [go_sem,hD,hJ,hP,hY,Bc]
 | (with_reducible refine CU (hf _) ?_)
 | (with_reducible refine aJ hQ ?_;simp only [ay,az,Option.some.injEq,exists_eq_left',go_sem,hD,hJ,hP,hY];repeat' (first | exact Ok.out | with_reducible refine aM ?_ ?_ | (simp;done))))
end Go.Abs

/-! Full1 -/

namespace Go.Abs
set_option maxRecDepth 8000
open Go.Proofs
def bI (t:aD) (n:Int):Int:=if n > 20000 then 20001 else if(t.length:Int)≥20000 - n then 20001 else n+1+t.length
mutual
def dm:Ex→Int→Int
 | ⟨_,_,name,kids⟩,n=>jN kids (bI name n)
def jN:List Ex→Int→Int
 | [],n=>n
 | x::l,n=>if n≤20000 then jN l (dm x n)else n
end
theorem jd {t:aD} {n:Int} (h0:0≤n):bI t n≤20001∧(n≤20000→n+1≤bI t n)∧0≤bI t n∧(bI t n≤20000→n+1+t.length=bI t n):=by
 unfold bI;split
 ·omega
 ·split <;> omega
theorem pU : ∀ (m:Nat) (x:Ex),x.size≤m→∀ n:Int,0≤n→dm x n≤20001∧(n≤20000→n+1≤dm x n)∧0≤dm x n∧(dm x n≤20000→(x.size:Int)+1≤2*(dm x n - n)∧x.texts):=by
 intro m
 induction m with
 | zero=>rintro⟨op,v,name,kids⟩ h;simp only [Ex.size]at h;omega
 | succ m ih=>
  rintro⟨op,v,name,kids⟩ h n h0
  simp only [Ex.size]at h
  obtain⟨t1,t2,t3,t4⟩:=jd (t:=name) h0
  have go : ∀ (l:List Ex),Ex.aS l≤m→∀ c:Int,0≤c→c≤20001→jN l c≤20001∧c≤jN l c∧(jN l c≤20000→(Ex.aS l:Int)≤2*(jN l c - c)∧Ex.pL l):=by
   intro l
   induction l with
   | nil=>intro _ c h0 h1;simp only [jN,Ex.aS];exact⟨h1,Int.le_refl _,fun _=>⟨by omega,trivial⟩⟩
   | cons y l ihl=>
    intro hs c h0 h1
    simp only [Ex.aS]at hs ⊢
    simp only [jN]
    split
    ·rename_i hc
     obtain⟨a1,a2,a3,a4⟩:=ih y (by omega) c h0
     obtain⟨b1,b2,b3⟩:=ihl (by omega) (dm y c) a3 a1
     have:=a2 hc
     refine⟨b1,by omega,fun hw=> ?_⟩
     obtain⟨c1,c2⟩:=b3 hw
     obtain⟨d1,d2⟩:=a4 (by omega)
     exact⟨by omega,d2,c2⟩
    ·exact⟨h1,Int.le_refl _,fun hw=>by omega⟩
  obtain⟨g1,g2,g3⟩:=go kids (by omega) (bI name n) t3 t1
  simp only [dm,Ex.size]
  refine⟨g1,fun hn=>by have:=t2 hn;omega,by omega,fun hw=> ?_⟩
  obtain⟨k1,k2⟩:=g3 hw
  have:=t4 (by omega)
  exact⟨by omega,by omega,k2⟩
theorem l6 (t:aD) {n:Int} (h0:0≤n) (h1:n≤20001) (s:St):aI Try.prog ey [.str t, .int .i64 n] s (.int .i64 (bI t n)) s:=by
 refine aI.pure ?_ rfl rfl s
 unfold S0
 have w1:IntKind.wrap .i64 (20000 - n)=20000 - n:=dj (by omega) (by omega)
 have w2:IntKind.wrap .i64 (n+1)=n+1:=dj (by omega) (by omega)
 by_cases c:n > 20000
 ·have c1:decide (n > 20000)=true:=by simp;omega
  have e:bI t n=20001:=by simp [bI,c]
  rw [e]
  refine aI.go k7 rfl fun B Q hB hQ=> ?_
  have⟨hD,hJ,hP,hY⟩:=bZ
  repeat' (first
 | simp only [go_sem,hD,hJ,hP,hY,c1,w1,w2]
 | (with_reducible first | refine cy fun hc=> ?_ | refine cz fun hc=> ?_ | refine cA (fun hc=> ?_) fun hc=> ?_) <;> (try simp only [hc,bs, ↓reduceIte]at h) <;> try simp only [hc]
 | (with_reducible refine aJ hQ ?_;(try cases h);simp only [ay,az,c9,da,go_sem,hD,hJ,hP,hY,c1,w1,w2];try exact lq)
 | (cases h;done))
 ·have c1:decide (n > 20000)=false:=by simp;omega
  by_cases d:(t.length:Int)≥20000 - n
  ·have d1:decide ((t.length:Int)≥20000 - n)=true:=by simp;omega
   have e:bI t n=20001:=by unfold bI;rw [if_neg c,if_pos d]
   rw [e]
   refine aI.go k7 rfl fun B Q hB hQ=> ?_
   have⟨hD,hJ,hP,hY⟩:=bZ
   repeat' (first
 | simp only [go_sem,hD,hJ,hP,hY,c1,d1,w1,w2]
 | (with_reducible first | refine cy fun hc=> ?_ | refine cz fun hc=> ?_ | refine cA (fun hc=> ?_) fun hc=> ?_) <;> (try simp only [hc,bs, ↓reduceIte]at h) <;> try simp only [hc]
 | (with_reducible refine aJ hQ ?_;(try cases h);simp only [ay,az,c9,da,go_sem,hD,hJ,hP,hY,c1,d1,w1,w2];try exact lq)
 | (cases h;done))
  ·have d1:decide ((t.length:Int)≥20000 - n)=false:=by simp;omega
   have e:bI t n=n+1+t.length:=by unfold bI;rw [if_neg c,if_neg d]
   have w3:IntKind.wrap .i64 (n+1+t.length)=n+1+t.length:=dj (by omega) (by omega)
   rw [e]
   refine aI.go k7 rfl fun B Q hB hQ=> ?_
   have⟨hD,hJ,hP,hY⟩:=bZ
   repeat' (first
 | simp only [go_sem,hD,hJ,hP,hY,c1,d1,w1,w2,w3]
 | (with_reducible first | refine cy fun hc=> ?_ | refine cz fun hc=> ?_ | refine cA (fun hc=> ?_) fun hc=> ?_) <;> (try simp only [hc,bs, ↓reduceIte]at h) <;> try simp only [hc]
 | (with_reducible refine aJ hQ ?_;(try cases h);simp only [ay,az,c9,da,go_sem,hD,hJ,hP,hY,c1,d1,w1,w2,w3];try exact lq)
 | (cases h;done))
theorem BG : ∀ (m:Nat) (x:Ex),x.size≤m→∀ {n:Int},0≤n→n≤20000→∀ s:St,aI Try.prog gk [.agg (bC x), .int .i64 n] s (.int .i64 (dm x n)) s:=by
 intro m
 induction m with
 | zero=>rintro⟨op,v,name,kids⟩ h;simp only [Ex.size]at h;omega
 | succ m ih=>
  rintro⟨op,v,name,kids⟩ dJ n h0 h1 s
  refine aI.pure ?_ (by simp [D.bE,D.ok,ky]) rfl s
  simp only [Ex.size]at dJ
  have hk : ∀ y∈kids,∀ {n:Int},0≤n→n≤20000→∀ s:St,aI Try.prog gk [.agg (bC y), .int .i64 n] s (.int .i64 (dm y n)) s:=fun y hy=>ih y (by have:=Ex.b7 hy;omega)
  have ht:=fun s=>l6 name h0 (by omega) s
  obtain⟨t1,t2,t3,t4⟩:=jd (t:=name) h0
  unfold S0
  generalize h:dm ⟨op,v,name,kids⟩ n=p
  simp only [dm]at h
  refine aI.go tU rfl fun B Q hB hQ=> ?_
  have⟨hD,hJ,hP,hY⟩:=bZ
  repeat' (first
 | simp only [go_sem,hD,hJ,hP,hY]
 | (with_reducible refine CU (ht _) ?_)
 | (with_reducible first | refine cy fun hc=> ?_ | refine cz fun hc=> ?_ | refine cA (fun hc=> ?_) fun hc=> ?_) <;> (try simp only [hc,bs, ↓reduceIte]at h) <;> try simp only [hc]
 | (with_reducible refine aJ hQ ?_;exact jE)
 | (cases h;done))
  refine dD 1 0 (bp.ind (ι:=List Ex×Nat×Int) (fun i=>kids.drop i.2.1=i.1∧jN i.1 i.2.2=p∧(i.2.1:Int)≤i.2.2∧i.2.2≤20001) (fun i=>i.1.length)
   (fun i=> [(1, .int .i64 i.2.2),(2, .ptr 0 0),(5, .int .i64 (i.2.1:Int))]) (fun i=>⟨[bC ⟨op,v,name,kids⟩],[]⟩) ?_ (kids,0,bI name n) ⟨rfl,h,t3,t1⟩)
  rintro⟨rest,k,c⟩ ⟨g1,h,g3,g4⟩ IH
  dsimp only at g1 h g3 g4
  cases rest with
  | nil=>
   have hD:=drop_nil g1
   simp only [jN]at h
   repeat' (first
 | simp only [go_sem,hD,hJ,hP,hY]
 | (with_reducible first | refine cy fun hc=> ?_ | refine cz fun hc=> ?_ | refine cA (fun hc=> ?_) fun hc=> ?_) <;> (try simp only [hc,bs, ↓reduceIte]at h) <;> try simp only [hc]
 | (with_reducible refine aJ hQ ?_;exact jE)
 | (cases h;done))
  | cons y rest=>
   obtain⟨hJ,g2,hD,g5⟩:=drop_cons g1
   simp only [jN]at h
   by_cases hc:c≤20000
   ·have c1:decide (c≤20000)=true:=by simp;omega
    have hy:=fun s=>hk y (List.mem_of_getElem? hJ) (n:=c) (by omega) hc s
    obtain⟨a1,a2,a3,a4⟩:=pU _ y (Nat.le_refl _) c (by omega)
    have:=a2 hc
    have w3:IntKind.wrap .i64 ((k:Int)+1)=((k+1:Nat):Int):=by rw [dj] <;> omega
    rw [if_pos hc]at h
    repeat' (first
 | simp only [go_sem,hD,hJ,hP,hY,c1,w3]
 | (with_reducible refine CU (hy _) ?_)
 | (with_reducible first | refine cy fun hc=> ?_ | refine cz fun hc=> ?_ | refine cA (fun hc=> ?_) fun hc=> ?_) <;> (try simp only [hc,bs, ↓reduceIte]at h) <;> try simp only [hc]
 | (with_reducible refine aJ hQ ?_;(try cases h);simp only [ay,az,c9,da,go_sem,hD,hJ,hP,hY,c1,w3];try exact lq)
 | (cases h;done))
    refine dD 1 0 (IH (rest,k+1,dm y c) ⟨g2,h,by dsimp only;omega,a1⟩ (Nat.lt_succ_self _))
   ·have c1:decide (c≤20000)=false:=by simp;omega
    rw [if_neg hc]at h
    repeat' (first
 | simp only [go_sem,hD,hJ,hP,hY,c1]
 | (with_reducible first | refine cy fun hc=> ?_ | refine cz fun hc=> ?_ | refine cA (fun hc=> ?_) fun hc=> ?_) <;> (try simp only [hc,bs, ↓reduceIte]at h) <;> try simp only [hc]
 | (with_reducible refine aJ hQ ?_;(try cases h);simp only [ay,az,c9,da,go_sem,hD,hJ,hP,hY,c1];try exact lq)
 | (cases h;done))
end Go.Abs

/-! Fits1 -/

namespace Go.Abs
set_option maxRecDepth 8000
open Go.Proofs
def cm:List aD→Int→Int
 | [],n=>n
 | t::l,n=>if n≤20000 then cm l (bI t n)else n
def fu:List Ar→Int→Int
 | [],n=>n
 | a::l,n=>if n≤20000 then fu l (bI a.name (dm a.x n))else n
def gE:List Pm→Int→Int
 | [],n=>n
 | a::l,n=>if n≤20000 then gE l (bI a.name n)else n
mutual
def mY:Sm→Int→Int
 | ⟨_,_,labels,name,proc,x,_,args,aZ,aQ⟩,n=>dK aQ (dK aZ (fu args (bI proc (bI name (cm labels (dm x n))))))
def dK:List Sm→Int→Int
 | [],n=>n
 | s::l,n=>if n≤20000 then dK l (mY s n)else n
end
theorem HE (s:Sm) (n:Int):mY s n=dK s.aQ (dK s.aZ (fu s.args (bI s.proc (bI s.name (cm s.labels (dm s.x n)))))):=by cases s;simp only [mY]
def oA (f:Pc) (n:Int):Int:=dK f.body (gE f.params (cm f.fin (cm f.vars (bI f.name n))))
def jO:List Pc→Int→Int
 | [],n=>n
 | f::l,n=>if n≤20000 then jO l (oA f n)else n
def Pg.uN (p:Pg):Int:=jO p.procs (cm p.globals 0)
theorem gW : ∀ (l:List aD) {n:Int},0≤n→n≤20001→cm l n≤20001∧n≤cm l n∧(cm l n≤20000→n+l.length≤cm l n∧∀ t∈l,t.length<4611686018427387904)
 | [],n,h0,h1=>by simp only [cm];exact⟨h1,Int.le_refl _,fun _=>⟨by simp,by simp⟩⟩
 | t::l,n,h0,h1=>by
  simp only [cm]
  split
  ·rename_i hc
   obtain⟨a1,a2,a3,a4⟩:=jd (t:=t) h0
   obtain⟨b1,b2,b3⟩:=gW l (n:=bI t n) a3 a1
   have:=a2 hc
   refine⟨b1,by omega,fun hw=> ?_⟩
   obtain⟨c1,c2⟩:=b3 hw
   have:=a4 (by omega)
   refine⟨by simp only [List.length_cons];omega,fun s m=> ?_⟩
   rcases List.mem_cons.1 m with rfl | m
   ·omega
   ·exact c2 s m
  ·exact⟨h1,Int.le_refl _,fun hw=>by omega⟩
theorem sx : ∀ (l:List Pm) {n:Int},0≤n→n≤20001→gE l n≤20001∧n≤gE l n∧(gE l n≤20000→n+l.length≤gE l n∧∀ t∈l,t.name.length<4611686018427387904)
 | [],n,h0,h1=>by simp only [gE];exact⟨h1,Int.le_refl _,fun _=>⟨by simp,by simp⟩⟩
 | t::l,n,h0,h1=>by
  simp only [gE]
  split
  ·rename_i hc
   obtain⟨a1,a2,a3,a4⟩:=jd (t:=t.name) h0
   obtain⟨b1,b2,b3⟩:=sx l (n:=bI t.name n) a3 a1
   have:=a2 hc
   refine⟨b1,by omega,fun hw=> ?_⟩
   obtain⟨c1,c2⟩:=b3 hw
   have:=a4 (by omega)
   refine⟨by simp only [List.length_cons];omega,fun s m=> ?_⟩
   rcases List.mem_cons.1 m with rfl | m
   ·omega
   ·exact c2 s m
  ·exact⟨h1,Int.le_refl _,fun hw=>by omega⟩
theorem sy : ∀ (l:List Ar) {n:Int},0≤n→n≤20001→fu l n≤20001∧n≤fu l n∧
 (fu l n≤20000→(Ar.aS l:Int)≤2*(fu l n - n)∧∀ a∈l,a.x.size<4611686018427387904∧a.x.texts∧a.name.length<4611686018427387904)
 | [],n,h0,h1=>by simp only [fu];exact⟨h1,Int.le_refl _,fun _=>⟨by simp [Ar.aS],by simp⟩⟩
 | a::l,n,h0,h1=>by
  simp only [fu]
  split
  ·rename_i hc
   obtain⟨a1,a2,a3,a4⟩:=pU _ a.x (Nat.le_refl _) n h0
   obtain⟨e1,e2,e3,e4⟩:=jd (t:=a.name) a3
   obtain⟨b1,b2,b3⟩:=sy l (n:=bI a.name (dm a.x n)) e3 e1
   have:=a2 hc
   have:dm a.x n≤bI a.name (dm a.x n):=by
    by_cases h:dm a.x n≤20000
    ·have:=e2 h;omega
    ·have:bI a.name (dm a.x n)=20001:=by unfold bI;rw [if_pos (by omega)]
     omega
   refine⟨b1,by omega,fun hw=> ?_⟩
   obtain⟨c1,c2⟩:=b3 hw
   have:=e4 (by omega)
   obtain⟨d1,d2⟩:=a4 (by omega)
   refine⟨by simp only [Ar.aS];omega,fun s m=> ?_⟩
   rcases List.mem_cons.1 m with rfl | m
   ·exact⟨by omega,d2,by omega⟩
   ·exact c2 s m
  ·exact⟨h1,Int.le_refl _,fun hw=>by omega⟩
theorem ib {t:aD} {n:Int} (h0:0≤n) (h1:n≤20001):n≤bI t n∧bI t n≤20001∧(bI t n≤20000→n+1≤bI t n∧t.length<4611686018427387904):=by
 obtain⟨e1,e2,e3,e4⟩:=jd (t:=t) h0
 by_cases h:n≤20000
 ·have:=e2 h
  exact⟨by omega,e1,fun hw=>⟨by omega,by have:=e4 hw;omega⟩⟩
 ·have:bI t n=20001:=by unfold bI;rw [if_pos (by omega)]
  exact⟨by omega,e1,fun hw=>by omega⟩
mutual
theorem zc : ∀ (s:Sm) {n:Int},0≤n→n≤20000→mY s n≤20001∧n+1≤mY s n∧(mY s n≤20000→(s.size:Int)+1≤2*(mY s n - n)∧s.qt)
 | ⟨id,kind,labels,name,proc,x,has,args,aZ,aQ⟩,n,h0,h1=>by
  obtain⟨a1,a2,a3,a4⟩:=pU _ x (Nat.le_refl _) n h0
  have a2:=a2 h1
  obtain⟨b1,b2,b3⟩:=gW labels a3 a1
  obtain⟨c1,c2,c3⟩:=ib (t:=name) (n:=cm labels (dm x n)) (by omega) b1
  obtain⟨d1,d2,d3⟩:=ib (t:=proc) (n:=bI name (cm labels (dm x n))) (by omega) c2
  obtain⟨e1,e2,e3⟩:=sy args (n:=bI proc (bI name (cm labels (dm x n)))) (by omega) d2
  obtain⟨f1,f2,f3⟩:=mZ aZ (n:=fu args (bI proc (bI name (cm labels (dm x n))))) (by omega) e1
  obtain⟨g1,g2,g3⟩:=mZ aQ (n:=dK aZ (fu args (bI proc (bI name (cm labels (dm x n)))))) (by omega) f1
  simp only [mY,Sm.size]
  refine⟨g1,by omega,fun hw=> ?_⟩
  obtain⟨g4,g5⟩:=g3 hw
  obtain⟨f4,f5⟩:=f3 (by omega)
  obtain⟨e4,e5⟩:=e3 (by omega)
  obtain⟨d4,d5⟩:=d3 (by omega)
  obtain⟨c4,c5⟩:=c3 (by omega)
  obtain⟨b4,b5⟩:=b3 (by omega)
  obtain⟨a5,a6⟩:=a4 (by omega)
  have:=Ar.cZ args
  refine⟨by omega, ?_⟩
  rw [vJ]
  exact⟨⟨b5,by dsimp only;omega,c5,d5,by dsimp only;omega,a6,by dsimp only;omega,e5⟩,f5,g5⟩
theorem mZ : ∀ (l:List Sm) {n:Int},0≤n→n≤20001→dK l n≤20001∧n≤dK l n∧(dK l n≤20000→(Sm.aS l:Int)≤2*(dK l n - n)∧Sm.gB l)
 | [],n,h0,h1=>by simp only [dK];exact⟨h1,Int.le_refl _,fun _=>⟨by simp [Sm.aS],by simp only [Sm.gB]⟩⟩
 | s::l,n,h0,h1=>by
  simp only [dK]
  split
  ·rename_i hc
   obtain⟨a1,a2,a3⟩:=zc s h0 hc
   obtain⟨b1,b2,b3⟩:=mZ l (n:=mY s n) (by omega) a1
   refine⟨b1,by omega,fun hw=> ?_⟩
   obtain⟨c1,c2⟩:=b3 hw
   obtain⟨d1,d2⟩:=a3 (by omega)
   exact⟨by simp only [Sm.aS];omega,d2,c2⟩
  ·exact⟨h1,Int.le_refl _,fun hw=>by omega⟩
end
theorem ze (f:Pc) {n:Int} (h0:0≤n) (h1:n≤20000):oA f n≤20001∧n+1≤oA f n∧(oA f n≤20000→(f.size:Int)+1≤2*(oA f n - n)∧
 (f.name.length<4611686018427387904∧(∀ t∈f.vars,t.length<4611686018427387904)∧(∀ t∈f.fin,t.length<4611686018427387904)∧∀ a∈f.params,a.name.length<4611686018427387904)∧Sm.gB f.body):=by
 obtain⟨c1,c2,c3⟩:=ib (t:=f.name) h0 (by omega:n≤20001)
 have c4:=(jd (t:=f.name) h0).2.1 h1
 obtain⟨d1,d2,d3⟩:=gW f.vars (n:=bI f.name n) (by omega) c2
 obtain⟨e1,e2,e3⟩:=gW f.fin (n:=cm f.vars (bI f.name n)) (by omega) d1
 obtain⟨g1,g2,g3⟩:=sx f.params (n:=cm f.fin (cm f.vars (bI f.name n))) (by omega) e1
 obtain⟨k1,k2,k3⟩:=mZ f.body (n:=gE f.params (cm f.fin (cm f.vars (bI f.name n)))) (by omega) g1
 unfold oA Pc.size
 refine⟨k1,by omega,fun hw=> ?_⟩
 obtain⟨k4,k5⟩:=k3 hw
 obtain⟨g4,g5⟩:=g3 (by omega)
 obtain⟨e4,e5⟩:=e3 (by omega)
 obtain⟨d4,d5⟩:=d3 (by omega)
 obtain⟨_,c5⟩:=c3 (by omega)
 exact⟨by omega,⟨c5,d5,e5,g5⟩,k5⟩
theorem xf : ∀ (l:List Pc) {n:Int},0≤n→n≤20001→jO l n≤20001∧n≤jO l n∧(jO l n≤20000→(Pc.aS l:Int)≤2*(jO l n - n)∧∀ f∈l,
 (f.name.length<4611686018427387904∧(∀ t∈f.vars,t.length<4611686018427387904)∧(∀ t∈f.fin,t.length<4611686018427387904)∧∀ a∈f.params,a.name.length<4611686018427387904)∧Sm.gB f.body)
 | [],n,h0,h1=>by simp only [jO];exact⟨h1,Int.le_refl _,fun _=>⟨by simp [Pc.aS],by simp⟩⟩
 | f::l,n,h0,h1=>by
  simp only [jO]
  split
  ·rename_i hc
   obtain⟨a1,a2,a3⟩:=ze f h0 hc
   obtain⟨b1,b2,b3⟩:=xf l (n:=oA f n) (by omega) a1
   refine⟨b1,by omega,fun hw=> ?_⟩
   obtain⟨c1,c2⟩:=b3 hw
   obtain⟨d1,d2⟩:=a3 (by omega)
   refine⟨by simp only [Pc.aS];omega,fun s m=> ?_⟩
   rcases List.mem_cons.1 m with rfl | m
   ·exact d2
   ·exact c2 s m
  ·exact⟨h1,Int.le_refl _,fun hw=>by omega⟩
theorem E9 {p:Pg} (h:p.uN≤20000):p.size≤40001∧p.zR:=by
 unfold Pg.uN at h
 obtain⟨a1,a2,a3⟩:=gW p.globals (n:=0) (by omega) (by omega)
 obtain⟨b1,b2,b3⟩:=xf p.procs (n:=cm p.globals 0) (by omega) a1
 obtain⟨c1,c2⟩:=b3 h
 obtain⟨d1,d2⟩:=a3 (by omega)
 have:p.size≤40001:=by unfold Pg.size;omega
 exact⟨this,by omega,d2,fun f m=>(c2 f m).1,fun f m=>(c2 f m).2⟩
theorem qC {l:List aD} {n:Int} (h0:0≤n) (h1:n≤20001) (s:St):aI Try.prog fU [.slice .shared 1 (l.map encStr), .int .i64 n] s (.int .i64 (cm l n)) s:=by
 refine aI.pure ?_ (by simp [D.bE,D.ok,e9,Tag.ok]) rfl s
 unfold S0
 generalize h:cm l n=p
 refine aI.go sY rfl fun B Q hB hQ=> ?_
 have⟨hD,hJ,hP,hY⟩:=bZ
 repeat' (first
 | simp only [go_sem,hD,hJ,hP,hY]
 | (with_reducible refine aJ hQ ?_;simp only [ay,az,Option.some.injEq,exists_eq_left',go_sem,hD,hJ,hP,hY];repeat' (first | exact Ok.out | with_reducible refine aM ?_ ?_ | (simp;done))))
 refine dD 0 0 (bp.ind (ι:=List aD×Nat×Int) (fun i=>l.drop i.2.1=i.1∧cm i.1 i.2.2=p∧(i.2.1:Int)≤i.2.2∧i.2.2≤20001) (fun i=>i.1.length)
  (fun i=> [(0, .slice .shared 1 (l.map encStr)),(1, .int .i64 i.2.2),(5, .int .i64 (i.2.1:Int))]) (fun i=>⟨[],[]⟩) ?_ (l,0,n) ⟨rfl,h,h0,h1⟩)
 rintro⟨rest,k,c⟩ ⟨g1,h,g3,g4⟩ IH
 dsimp only at g1 h g3 g4
 cases rest with
 | nil=>
  have hD:=drop_nil g1
  simp only [cm]at h
  subst h
  repeat' (first
 | simp only [go_sem,hD,hJ,hP,hY]
 | (with_reducible refine aJ hQ ?_;simp only [ay,az,Option.some.injEq,exists_eq_left',go_sem,hD,hJ,hP,hY];repeat' (first | exact Ok.out | with_reducible refine aM ?_ ?_ | (simp;done))))
 | cons y rest=>
  obtain⟨hJ,g2,hD,g5⟩:=drop_cons g1
  simp only [cm]at h
  by_cases hc:c≤20000
  ·have c1:decide (c≤20000)=true:=by simp;omega
   have hy:=fun s=>l6 y (n:=c) (by omega) g4 s
   obtain⟨a1,a2,a3,a4⟩:=jd (t:=y) (n:=c) (by omega)
   have:=a2 hc
   have w3:IntKind.wrap .i64 ((k:Int)+1)=((k+1:Nat):Int):=by rw [dj] <;> omega
   rw [if_pos hc]at h
   repeat' (first
 | simp only [go_sem,hD,hJ,hP,hY,c1,w3]
 | (with_reducible refine CU (hy _) ?_)
 | (with_reducible refine aJ hQ ?_;simp only [ay,az,Option.some.injEq,exists_eq_left',go_sem,hD,hJ,hP,hY];repeat' (first | exact Ok.out | with_reducible refine aM ?_ ?_ | (simp;done))))
   refine dD 0 0 (IH (rest,k+1,bI y c) ⟨g2,h,by dsimp only;omega,a1⟩ (Nat.lt_succ_self _))
  ·have c1:decide (c≤20000)=false:=by simp;omega
   rw [if_neg hc]at h
   subst h
   repeat' (first
 | simp only [go_sem,hD,hJ,hP,hY,c1]
 | (with_reducible refine aJ hQ ?_;simp only [ay,az,Option.some.injEq,exists_eq_left',go_sem,hD,hJ,hP,hY];repeat' (first | exact Ok.out | with_reducible refine aM ?_ ?_ | (simp;done))))
theorem HF : ∀ (m:Nat) (l:List Sm),Sm.aS l≤m→∀ {n:Int},0≤n→n≤20001→∀ s:St,aI Try.prog gO [.slice .shared 13 (l.map bd), .int .i64 n] s (.int .i64 (dK l n)) s:=by
 intro m
 induction m with
 | zero=>
  intro l h n h0 h1 s
  cases l with
  | nil=>
   have z:decide ((0:Int)<0)=false:=rfl
   refine aI.pure ?_ (by simp [D.bE,D.ok,D.gM,Tag.ok]) rfl s
   unfold S0
   simp only [dK]
   refine aI.go nr rfl fun B Q hB hQ=> ?_
   have⟨hD,hJ,hP,hY⟩:=bZ
   repeat' (first
 | simp only [go_sem,hD,hJ,hP,hY,z]
 | (with_reducible refine bp.zJ ?_)
 | (with_reducible refine aJ hQ ?_;simp only [ay,az,Option.some.injEq,exists_eq_left',go_sem,hD,hJ,hP,hY];repeat' (first | exact Ok.out | with_reducible refine aM ?_ ?_ | (simp;done))))
  | cons s l=>simp only [Sm.aS]at h;omega
 | succ m ih=>
  intro l h n h0 h1 s
  refine aI.pure ?_ (by simp [D.bE,D.ok,o6,Tag.ok]) rfl s
  unfold S0
  generalize hp:dK l n=p
  refine aI.go nr rfl fun B Q hB hQ=> ?_
  have⟨hD,hJ,hP,hY⟩:=bZ
  repeat' (first
 | simp only [go_sem,hD,hJ,hP,hY]
 | (with_reducible refine aJ hQ ?_;simp only [ay,az,Option.some.injEq,exists_eq_left',go_sem,hD,hJ,hP,hY];repeat' (first | exact Ok.out | with_reducible refine aM ?_ ?_ | (simp;done))))
  refine dD 0 0 (bp.ind (ι:=List Sm×Nat×Int) (fun i=>l.drop i.2.1=i.1∧dK i.1 i.2.2=p∧(i.2.1:Int)≤i.2.2∧i.2.2≤20001) (fun i=>i.1.length)
   (fun i=> [(0, .slice .shared 13 (l.map bd)),(1, .int .i64 i.2.2),(5, .int .i64 (i.2.1:Int))]) (fun i=>⟨[],[]⟩) ?_ (l,0,n) ⟨rfl,hp,h0,h1⟩)
  rintro⟨rest,k,c⟩ ⟨g1,hp,g3,g4⟩ IH
  dsimp only at g1 hp g3 g4
  cases rest with
  | nil=>
   have hD:=drop_nil g1
   simp only [dK]at hp
   subst hp
   repeat' (first
 | simp only [go_sem,hD,hJ,hP,hY]
 | (with_reducible refine aJ hQ ?_;simp only [ay,az,Option.some.injEq,exists_eq_left',go_sem,hD,hJ,hP,hY];repeat' (first | exact Ok.out | with_reducible refine aM ?_ ?_ | (simp;done))))
  | cons y rest=>
   obtain⟨hJ,g2,hD,g5⟩:=drop_cons g1
   simp only [dK]at hp
   by_cases hc:c≤20000
   ·have c1:decide (c≤20000)=true:=by simp;omega
    have kx:=List.mem_of_getElem? hJ
    have dJ:=Sm.b7 kx
    have T4:s.au.length≤s.au.length∧Sm.aS y.aZ<y.size∧Sm.aS y.aQ<y.size:=by cases y;simp only [Sm.size];omega
    have w3:IntKind.wrap .i64 ((k:Int)+1)=((k+1:Nat):Int):=by rw [dj] <;> omega
    rw [if_pos hc]at hp
    obtain⟨a1,a2,a3,a4⟩:=pU _ y.x (Nat.le_refl _) c (by omega)
    have a2:=a2 hc
    obtain⟨b1,b2,b3⟩:=gW y.labels a3 a1
    obtain⟨c1',c2,c3⟩:=ib (t:=y.name) (n:=cm y.labels (dm y.x c)) (by omega) b1
    obtain⟨d1,d2,d3⟩:=ib (t:=y.proc) (n:=bI y.name (cm y.labels (dm y.x c))) (by omega) c2
    have eE:=fun s=>BG _ y.x (Nat.le_refl _) (n:=c) (by omega) hc s
    have eL:=fun s=>qC (l:=y.labels) (n:=dm y.x c) (by omega) a1 s
    have eN:=fun s=>l6 y.name (n:=cm y.labels (dm y.x c)) (by omega) b1 s
    have eP:=fun s=>l6 y.proc (n:=bI y.name (cm y.labels (dm y.x c))) (by omega) c2 s
    obtain⟨r1,r2,r3⟩:=zc y (n:=c) (by omega) hc
    rw [HE]at hp r1 r2
    generalize hC:bI y.proc (bI y.name (cm y.labels (dm y.x c)))=C at *
    obtain⟨s1,s2,s3⟩:=sy y.args (n:=C) (by omega) d2
    obtain⟨t1,t2,t3⟩:=mZ y.aZ (n:=fu y.args C) (by omega) s1
    have eT:=fun s=>ih y.aZ (by omega) (n:=fu y.args C) (by omega) s1 s
    have eS:=fun s=>ih y.aQ (by omega) (n:=dK y.aZ (fu y.args C)) (by omega) t1 s
    generalize hW:fu y.args C=W at *
    repeat' (first
 | simp only [go_sem,hD,hJ,hP,hY,c1,w3]
 | (with_reducible refine CU (eE _) ?_)
 | (with_reducible refine CU (eL _) ?_)
 | (with_reducible refine CU (eN _) ?_)
 | (with_reducible refine CU (eP _) ?_)
 | (with_reducible refine aJ hQ ?_;simp only [ay,az,Option.some.injEq,exists_eq_left',go_sem,hD,hJ,hP,hY];repeat' (first | exact Ok.out | with_reducible refine aM ?_ ?_ | (simp;done))))
    refine dD 1 0 (bp.ind (ι:=List Ar×Nat×Int) (fun i=>y.args.drop i.2.1=i.1∧fu i.1 i.2.2=W∧(i.2.1:Int)≤i.2.2∧i.2.2≤20001) (fun i=>i.1.length)
     (fun i=> [(0, .slice .shared 13 (l.map bd)),(1, .int .i64 i.2.2),(5, .int .i64 (k:Int)),(6, .ptr 0 0),(7, .int .i64 (i.2.1:Int))]) (fun i=>⟨[bd y],[]⟩) ?_ (y.args,0,C) ⟨rfl,hW,by dsimp only;omega,d2⟩)
    rintro⟨Pz,j,e⟩ ⟨k1,hw,k3,k4⟩ wU
    dsimp only at k1 hw k3 k4
    cases Pz with
    | nil=>
     have hD:=drop_nil k1
     simp only [fu]at hw
     subst hw
     repeat' (first
 | simp only [go_sem,hD,hJ,hP,hY,w3]
 | (with_reducible refine CU (eT _) ?_)
 | (with_reducible refine CU (eS _) ?_)
 | (with_reducible refine aJ hQ ?_;simp only [ay,az,Option.some.injEq,exists_eq_left',go_sem,hD,hJ,hP,hY];repeat' (first | exact Ok.out | with_reducible refine aM ?_ ?_ | (simp;done))))
     refine dD 0 0 (IH (rest,k+1,dK y.aQ (dK y.aZ e)) ⟨g2,hp,by dsimp only;omega,r1⟩ (Nat.lt_succ_self _))
    | cons a Pz=>
     obtain⟨hJ,k2,hD,k5⟩:=drop_cons k1
     simp only [fu]at hw
     by_cases he:e≤20000
     ·have e1:decide (e≤20000)=true:=by simp;omega
      have w4:IntKind.wrap .i64 ((j:Int)+1)=((j+1:Nat):Int):=by rw [dj] <;> omega
      rw [if_pos he]at hw
      obtain⟨u1,u2,u3,u4⟩:=pU _ a.x (Nat.le_refl _) e (by omega)
      have u2:=u2 he
      obtain⟨v1,v2,v3⟩:=ib (t:=a.name) (n:=dm a.x e) u3 u1
      have eX:=fun s=>BG _ a.x (Nat.le_refl _) (n:=e) (by omega) he s
      have eM:=fun s=>l6 a.name (n:=dm a.x e) u3 u1 s
      repeat' (first
 | simp only [go_sem,hD,hJ,hP,hY,e1,w4]
 | (with_reducible refine CU (eX _) ?_)
 | (with_reducible refine CU (eM _) ?_)
 | (with_reducible refine aJ hQ ?_;simp only [ay,az,Option.some.injEq,exists_eq_left',go_sem,hD,hJ,hP,hY];repeat' (first | exact Ok.out | with_reducible refine aM ?_ ?_ | (simp;done))))
      refine dD 1 0 (wU (Pz,j+1,bI a.name (dm a.x e)) ⟨k2,hw,by dsimp only;omega,v2⟩ (Nat.lt_succ_self _))
     ·have e1:decide (e≤20000)=false:=by simp;omega
      rw [if_neg he]at hw
      subst hw
      repeat' (first
 | simp only [go_sem,hD,hJ,hP,hY,e1,w3]
 | (with_reducible refine CU (eT _) ?_)
 | (with_reducible refine CU (eS _) ?_)
 | (with_reducible refine aJ hQ ?_;simp only [ay,az,Option.some.injEq,exists_eq_left',go_sem,hD,hJ,hP,hY];repeat' (first | exact Ok.out | with_reducible refine aM ?_ ?_ | (simp;done))))
      refine dD 0 0 (IH (rest,k+1,dK y.aQ (dK y.aZ e)) ⟨g2,hp,by dsimp only;omega,r1⟩ (Nat.lt_succ_self _))
   ·have c1:decide (c≤20000)=false:=by simp;omega
    rw [if_neg hc]at hp
    subst hp
    repeat' (first
 | simp only [go_sem,hD,hJ,hP,hY,c1]
 | (with_reducible refine aJ hQ ?_;simp only [ay,az,Option.some.injEq,exists_eq_left',go_sem,hD,hJ,hP,hY];repeat' (first | exact Ok.out | with_reducible refine aM ?_ ?_ | (simp;done))))
end Go.Abs

/-! Fits2 -/

namespace Go.Abs
set_option maxRecDepth 8000
open Go.Proofs
theorem PA (p:Pg) (s:St):aI Try.prog qO [.agg (bN p)] s (.bool (decide (p.uN≤20000))) s:=by
 refine aI.pure ?_ (by simp only [D.bE,D.ok,jh];rfl) rfl s
 unfold S0
 generalize hp:p.uN=W
 unfold Pg.uN at hp
 obtain⟨a1,a2,a3⟩:=gW p.globals (n:=0) (by omega) (by omega)
 have eG:=fun s=>qC (l:=p.globals) (n:=0) (by omega) (by omega) s
 refine aI.go zm rfl fun B Q hB hQ=> ?_
 have⟨hD,hJ,hP,hY⟩:=bZ
 repeat' (first
 | simp only [go_sem,hD,hJ,hP,hY]
 | (with_reducible refine CU (eG _) ?_)
 | (with_reducible refine aJ hQ ?_;simp only [ay,az,c9,da,go_sem,hD,hJ,hP,hY];repeat' (first | exact Ok.out | with_reducible refine aM ?_ ?_ | (simp;done))))
 refine dD 1 0 (bp.ind (ι:=List Pc×Nat×Int) (fun i=>p.procs.drop i.2.1=i.1∧jO i.1 i.2.2=W∧(i.2.1:Int)≤i.2.2∧i.2.2≤20001) (fun i=>i.1.length)
  (fun i=> [(1, .ptr 0 0),(3, .int .i64 i.2.2),(4, .int .i64 (i.2.1:Int))]) (fun i=>⟨[bN p],[]⟩) ?_ (p.procs,0,cm p.globals 0) ⟨rfl,hp,a2,a1⟩)
 rintro⟨rest,k,c⟩ ⟨g1,hp,g3,g4⟩ IH
 dsimp only at g1 hp g3 g4
 cases rest with
 | nil=>
  have hD:=drop_nil g1
  simp only [jO]at hp
  subst hp
  repeat' (first
 | simp only [go_sem,hD,hJ,hP,hY]
 | (with_reducible refine aJ hQ ?_;simp only [ay,az,c9,da,go_sem,hD,hJ,hP,hY];repeat' (first | exact Ok.out | with_reducible refine aM ?_ ?_ | (simp;done))))
 | cons f rest=>
  obtain⟨hJ,g2,hD,g5⟩:=drop_cons g1
  simp only [jO]at hp
  by_cases hc:c≤20000
  ·have c1:decide (c≤20000)=true:=by simp;omega
   have w3:IntKind.wrap .i64 ((k:Int)+1)=((k+1:Nat):Int):=by rw [dj] <;> omega
   rw [if_pos hc]at hp
   obtain⟨r1,r2,r3⟩:=ze f (n:=c) (by omega) hc
   unfold oA at hp r1 r2
   obtain⟨c1',c2,c3⟩:=ib (t:=f.name) (n:=c) (by omega) g4
   obtain⟨d1,d2,d3⟩:=gW f.vars (n:=bI f.name c) (by omega) c2
   obtain⟨e1,e2,e3⟩:=gW f.fin (n:=cm f.vars (bI f.name c)) (by omega) d1
   have eN:=fun s=>l6 f.name (n:=c) (by omega) g4 s
   have eV:=fun s=>qC (l:=f.vars) (n:=bI f.name c) (by omega) c2 s
   have eF:=fun s=>qC (l:=f.fin) (n:=cm f.vars (bI f.name c)) (by omega) d1 s
   generalize hC:cm f.fin (cm f.vars (bI f.name c))=C at *
   obtain⟨s1,s2,s3⟩:=sx f.params (n:=C) (by omega) e1
   have eT:=fun s=>HF _ f.body (Nat.le_refl _) (n:=gE f.params C) (by omega) s1 s
   generalize hM:gE f.params C=M at *
   repeat' (first
 | simp only [go_sem,hD,hJ,hP,hY,c1,w3]
 | (with_reducible refine CU (eN _) ?_)
 | (with_reducible refine CU (eV _) ?_)
 | (with_reducible refine CU (eF _) ?_)
 | (with_reducible refine aJ hQ ?_;simp only [ay,az,c9,da,go_sem,hD,hJ,hP,hY];repeat' (first | exact Ok.out | with_reducible refine aM ?_ ?_ | (simp;done))))
   refine dD 2 0 (bp.ind (ι:=List Pm×Nat×Int) (fun i=>f.params.drop i.2.1=i.1∧gE i.1 i.2.2=M∧(i.2.1:Int)≤i.2.2∧i.2.2≤20001) (fun i=>i.1.length)
    (fun i=> [(1, .ptr 0 0),(3, .int .i64 i.2.2),(4, .int .i64 (k:Int)),(5, .ptr 1 0),(6, .int .i64 (i.2.1:Int))]) (fun i=>⟨[bN p,bL f],[]⟩) ?_ (f.params,0,C) ⟨rfl,hM,by dsimp only;omega,e1⟩)
   rintro⟨ms,j,e⟩ ⟨k1,hw,k3,k4⟩ wU
   dsimp only at k1 hw k3 k4
   cases ms with
   | nil=>
    have hD:=drop_nil k1
    simp only [gE]at hw
    subst hw
    repeat' (first
 | simp only [go_sem,hD,hJ,hP,hY,w3]
 | (with_reducible refine CU (eT _) ?_)
 | (with_reducible refine aJ hQ ?_;simp only [ay,az,c9,da,go_sem,hD,hJ,hP,hY];repeat' (first | exact Ok.out | with_reducible refine aM ?_ ?_ | (simp;done))))
    refine dD 1 0 (IH (rest,k+1,dK f.body e) ⟨g2,hp,by dsimp only;omega,r1⟩ (Nat.lt_succ_self _))
   | cons a ms=>
    obtain⟨hJ,k2,hD,k5⟩:=drop_cons k1
    simp only [gE]at hw
    by_cases he:e≤20000
    ·have e1:decide (e≤20000)=true:=by simp;omega
     have w4:IntKind.wrap .i64 ((j:Int)+1)=((j+1:Nat):Int):=by rw [dj] <;> omega
     rw [if_pos he]at hw
     obtain⟨v1,v2,v3⟩:=ib (t:=a.name) (n:=e) (by omega) k4
     have v4:=(jd (t:=a.name) (n:=e) (by omega)).2.1 he
     have eM:=fun s=>l6 a.name (n:=e) (by omega) k4 s
     repeat' (first
 | simp only [go_sem,hD,hJ,hP,hY,e1,w4]
 | (with_reducible refine CU (eM _) ?_)
 | (with_reducible refine aJ hQ ?_;simp only [ay,az,c9,da,go_sem,hD,hJ,hP,hY];repeat' (first | exact Ok.out | with_reducible refine aM ?_ ?_ | (simp;done))))
     refine dD 2 0 (wU (ms,j+1,bI a.name e) ⟨k2,hw,by dsimp only;omega,v2⟩ (Nat.lt_succ_self _))
    ·have e1:decide (e≤20000)=false:=by simp;omega
     rw [if_neg he]at hw
     subst hw
     repeat' (first
 | simp only [go_sem,hD,hJ,hP,hY,e1,w3]
 | (with_reducible refine CU (eT _) ?_)
 | (with_reducible first | refine cy fun hc=> ?_ | refine cz fun hc=> ?_ | refine cA (fun hc=> ?_) fun hc=> ?_) <;> (try simp only [hc,bs, ↓reduceIte]at h) <;> try simp only [hc]
 | (with_reducible refine aJ hQ ?_;simp only [ay,az,c9,da,go_sem,hD,hJ,hP,hY,e1,w3];repeat' (first | exact Ok.out | with_reducible refine aM ?_ ?_ | (simp;done))))
     refine dD 1 0 (IH (rest,k+1,dK f.body e) ⟨g2,hp,by dsimp only;omega,r1⟩ (Nat.lt_succ_self _))
  ·have c1:decide (c≤20000)=false:=by simp;omega
   rw [if_neg hc]at hp
   subst hp
   repeat' (first
 | simp only [go_sem,hD,hJ,hP,hY,c1]
 | (with_reducible first | refine cy fun hc=> ?_ | refine cz fun hc=> ?_ | refine cA (fun hc=> ?_) fun hc=> ?_) <;> (try simp only [hc,bs, ↓reduceIte]at h) <;> try simp only [hc]
 | (with_reducible refine aJ hQ ?_;simp only [ay,az,c9,da,go_sem,hD,hJ,hP,hY,c1];repeat' (first | exact Ok.out | with_reducible refine aM ?_ ?_ | (simp;done))))
end Go.Abs

/-! MirEq -/

namespace Go.Abs
def PB:List aD→List aD→Bool
 | [],_=>true
 | _::_,[]=>true
 | x::l,y::l'=>if !(x==y)then false else PB l l'
def Lu (l l':List aD):Bool:=if(l.length:Int) != (l'.length:Int)then false else PB l l'
def Ar.lz:List Ar→List Ar→Bool
 | [],_=>true
 | _::_,[]=>true
 | a::l,b::l'=>if !(a.ref==b.ref) || !(a.name==b.name) || !(Ex.beq a.x b.x)then false else Ar.lz l l'
mutual
def Sm.beq:Sm→Sm→Bool
 | ⟨id,kind,labels,name,proc,x,has,args,aZ,aQ⟩,⟨id',Ri,MG,EN,Rj,x',Up,wA,PC,PD⟩=>
  if id != id' || kind != Ri || !(name==EN) || !(proc==Rj) || !(has==Up) || !(Lu labels MG) || !(Ex.beq x x') || (args.length:Int) != (wA.length:Int)then false
  else if !(Ar.lz args wA)then false
  else if(if(aZ.length:Int) != (PC.length:Int)then false else Sm.lz aZ PC)then(if(aQ.length:Int) != (PD.length:Int)then false else Sm.lz aQ PD)else false
def Sm.lz:List Sm→List Sm→Bool
 | [],_=>true
 | _::_,[]=>true
 | s::l,t::l'=>if !(Sm.beq s t)then false else Sm.lz l l'
end
def Sm.Uq (l l':List Sm):Bool:=if(l.length:Int) != (l'.length:Int)then false else Sm.lz l l'
def Pm.lz:List Pm→List Pm→Bool
 | [],_=>true
 | _::_,[]=>true
 | a::l,b::l'=>if !((a.name==b.name) && (a.ref==b.ref))then false else Pm.lz l l'
def Pc.lz:List Pc→List Pc→Bool
 | [],_=>true
 | _::_,[]=>true
 | f::l,g::l'=>
  if !(f.name==g.name) || (f.params.length:Int) != (g.params.length:Int) || !(Lu f.vars g.vars) || !(Lu f.fin g.fin) || !(Sm.Uq f.body g.body)then false
  else if !(Pm.lz f.params g.params)then false else Pc.lz l l'
def Pg.beq (p q:Pg):Bool:=if !(Lu p.globals q.globals) || (p.procs.length:Int) != (q.procs.length:Int)then false else Pc.lz p.procs q.procs
end Go.Abs

/-! RefEq -/

namespace Go.Abs
open Go.Proofs
end Go.Abs

/-! RefEq2 -/

namespace Go.Abs
set_option maxRecDepth 8000
open Go.Proofs
def uO (n:Int):Ex:=⟨1,n,[],[]⟩
def na (s:aD):Ex:=⟨2,0,s,[]⟩
def xg (op:Int) (a b:Ex):Ex:=⟨op,0,[],[a,b]⟩
theorem Rk (n:Int) (s:St):aI Try.prog mH [.int .i64 n] s (.agg (bC (uO n))) s:=by
 refine aI.pure ?_ rfl (by simp [D.ok,ky]) s
 unfold S0
 refine aI.go A8 rfl fun B Q hB hQ=> ?_
 have⟨hD,hJ,hP,hY⟩:=bZ
 repeat' (first
 | simp only [go_sem,hD,hJ,hP,hY,uO]
 | (with_reducible first | refine cy fun hc=> ?_ | refine cz fun hc=> ?_ | refine cA (fun hc=> ?_) fun hc=> ?_) <;> (try simp only [hc,bs, ↓reduceIte]at h) <;> try simp only [hc]
 | (with_reducible refine aJ hQ ?_;(try cases h);simp only [ay,az,c9,da,go_sem,hD,hJ,hP,hY,uO];try exact lq)
 | (cases h;done))
theorem Fa (t:aD) (s:St):aI Try.prog gZ [.str t] s (.agg (bC (na t))) s:=by
 refine aI.pure ?_ rfl (by simp [D.ok,ky]) s
 unfold S0
 refine aI.go zt rfl fun B Q hB hQ=> ?_
 have⟨hD,hJ,hP,hY⟩:=bZ
 repeat' (first
 | simp only [go_sem,hD,hJ,hP,hY,na]
 | (with_reducible first | refine cy fun hc=> ?_ | refine cz fun hc=> ?_ | refine cA (fun hc=> ?_) fun hc=> ?_) <;> (try simp only [hc,bs, ↓reduceIte]at h) <;> try simp only [hc]
 | (with_reducible refine aJ hQ ?_;(try cases h);simp only [ay,az,c9,da,go_sem,hD,hJ,hP,hY,na];try exact lq)
 | (cases h;done))
theorem HG (op:Int) (a b:Ex) (s:St):aI Try.prog o7 [.int .i64 op, .agg (bC a), .agg (bC b)] s (.agg (bC (xg op a b))) s:=by
 refine aI.pure ?_ (by simp [D.bE,D.ok,ky]) (by simp [D.ok,ky]) s
 unfold S0
 refine aI.go A9 rfl fun B Q hB hQ=> ?_
 have⟨hD,hJ,hP,hY⟩:=bZ
 repeat' (first
 | simp only [go_sem,hD,hJ,hP,hY,xg]
 | (with_reducible first | refine cy fun hc=> ?_ | refine cz fun hc=> ?_ | refine cA (fun hc=> ?_) fun hc=> ?_) <;> (try simp only [hc,bs, ↓reduceIte]at h) <;> try simp only [hc]
 | (with_reducible refine aJ hQ ?_;(try cases h);simp only [ay,az,c9,da,go_sem,hD,hJ,hP,hY,xg];try exact lq)
 | (cases h;done))
def source:aD:= [103,108,111,98,97,108,32,103,59,10,112,114,111,99,32,109,97,105,110,40,41,32,123,10,32,118,97,114,32,118,59,10,32,118,32,61,32,50,59,10,32,103,32,61,32,112,40,51,44,32,114,101,102,32,118,41,59,10,32,112,114,105,110,116,32,118,59,10,32,112,114,105,110,116,32,103,59,10,125,10,112,114,111,99,32,112,40,120,44,32,114,101,102,32,121,41,32,123,10,32,121,32,61,32,121,32,43,32,120,59,10,32,105,102,32,40,121,32,62,32,57,41,32,123,10,32,32,103,111,116,111,32,101,59,10,32,125,10,32,114,101,116,117,114,110,32,121,59,10,101,58,32,125,10]
def j9:Pg:=⟨[[103]],[
 ⟨[109,97,105,110],[],[[118]],[
  ⟨1,1,[],[118],[],uO 2,false,[],[],[]⟩,
  ⟨2,4,[],[103],[112],mC,false,[⟨false,[],uO 3⟩,⟨true,[118],mC⟩],[],[]⟩,
  ⟨3,3,[],[],[],na [118],false,[],[],[]⟩,
  ⟨4,3,[],[],[],na [103],false,[],[],[]⟩],[]⟩,
 ⟨[112],[⟨[120],false⟩,⟨[121],true⟩],[],[
  ⟨5,1,[],[121],[],xg 8 (na [121]) (na [120]),false,[],[],[]⟩,
  ⟨6,5,[],[],[],xg 12 (na [121]) (uO 9),false,[],[⟨7,10,[],[101],[],mC,false,[],[],[]⟩],[]⟩,
  ⟨8,9,[],[],[],na [121],true,[],[],[]⟩],[[101]]⟩]⟩
theorem PE (s:St):aI Try.prog qR [] s (.agg (bN j9)) s:=by
 refine aI.pure ?_ rfl (by simp [D.ok,jh]) s
 unfold S0
 refine aI.go zn rfl fun B Q hB hQ=> ?_
 have⟨hD,hJ,hP,hY⟩:=bZ
 repeat' (first
 | simp only [go_sem,hD,hJ,hP,hY,j9]
 | (with_reducible refine CU (Rk _ _) ?_)
 | (with_reducible refine CU (Fa _ _) ?_)
 | (with_reducible refine CU (HG _ _ _ _) ?_)
 | (with_reducible first | refine cy fun hc=> ?_ | refine cz fun hc=> ?_ | refine cA (fun hc=> ?_) fun hc=> ?_) <;> (try simp only [hc,bs, ↓reduceIte]at h) <;> try simp only [hc]
 | (with_reducible refine aJ hQ ?_;(try cases h);simp only [ay,az,c9,da,go_sem,hD,hJ,hP,hY,j9];repeat' (first | exact Ok.out | with_reducible refine aM ?_ ?_ | (simp;done)))
 | (cases h;done))
 repeat' (first | exact Ok.out | with_reducible refine Wk.agg ?_ | with_reducible refine Wk.rows ?_ | with_reducible refine Wk.slice ?_ | with_reducible refine fK.cons ?_ ?_ | with_reducible refine jB.cons ?_ ?_)
end Go.Abs

/-! LawTo1 -/

namespace Go.Abs
set_option maxRecDepth 8000
open Go.Proofs
theorem HH:j9.may=true:=by decide +kernel
theorem x5:j9.kL:=⟨yQ HH (by decide +kernel),by decide +kernel⟩
def Pg.abb (p:Pg) (n:Int):aD:=match p.procs[(q7 n p.procs.length).toNat]? with | some f=>f.name | none=> []
theorem J6 (l:List aD):(fN l).length≤l.length:=oz _ _ (mW (gC l).1) fun x m=>((gC l).2 x).1 m
theorem Fb {p:Pg} (h:p.kL) (nm:aD):(p.jb nm).length≤2000000000000:=by
 unfold Pg.jb
 cases hs:p.q6 nm with
 | none=>exact Nat.zero_le _
 | some f=>
  obtain⟨mX,hf⟩:=uu hs
  have h1:=(vQ mX hf).len
  have h2:=h.procs
  have h3:=(pT h (fN (p.work nm)) []).2
  have h4:(fN (p.work nm)).length*1800000≤900000*1800000:=Nat.mul_le_mul_right _ (by omega)
  have h5:=J6 (p.la nm)
  dsimp only
  unfold Pg.la at *
  simp only [List.length_nil]at h3
  omega
end Go.Abs

/-! AlP -/

namespace Go.Abs
set_option maxRecDepth 8000
open Go.Proofs
theorem xh {id:Int} : ∀ {l:List It},pf id l=none→∀ i∈l,i.s.id≠id
 | a::l,h,i,m=>by
  simp only [pf]at h
  split at h
  ·cases h
  ·rename_i c
   rcases List.mem_cons.1 m with rfl | m
   ·simpa using c
   ·exact xh h i m
theorem xi {id:Int} {i:It} : ∀ {l:List It},pf id l=some i→i∈l∧i.s.id=id
 | a::l,h=>by
  simp only [pf]at h
  split at h
  ·rename_i c
   cases h
   exact⟨List.mem_cons_self ..,eq_of_beq c⟩
  ·obtain⟨h1,h2⟩:=xi h
   exact⟨List.mem_cons_of_mem _ h1,h2⟩
theorem pg {id:Int} {r:It×aD} : ∀ {l:List Pc},jx id l=some r→∃ f∈l,r.1∈f.flat∧r.1.s.id=id∧r.2=f.name
 | f::l,h=>by
  simp only [jx]at h
  split at h
  ·rename_i i e
   cases h
   obtain⟨h1,h2⟩:=xi e
   exact⟨f,List.mem_cons_self ..,h1,h2,rfl⟩
  ·obtain⟨g,h1,h2⟩:=pg h
   exact⟨g,List.mem_cons_of_mem _ h1,h2⟩
theorem xj {id:Int} : ∀ {l:List Pc},jx id l=none→∀ f∈l,∀ i∈f.flat,i.s.id≠id
 | f::l,h,g,m,i,hi=>by
  simp only [jx]at h
  split at h
  ·cases h
  ·rename_i e
   rcases List.mem_cons.1 m with rfl | m
   ·exact xh e i hi
   ·exact xj h g m i hi
theorem J7 {p:Pg} (hb:p.may=true) {id:Int} (h : ∃ v∈p.pre,v.id=id):p.j8 id∈p.pre∧(p.j8 id).id=id:=by
 obtain⟨v,hv,PF⟩:=h
 have ke:=(nR hb).1
 unfold Pg.j8
 cases e:jx id p.procs with
 | some r=>
  obtain⟨f,h1,h2,h3,_⟩:=pg e
  refine⟨?_,h3⟩
  simp only [Pg.pre,List.mem_flatten,List.mem_map]
  exact⟨_,⟨f,h1,rfl⟩,by rw [← ke f h1];exact List.mem_map_of_mem h2⟩
 | none=>
  simp only [Pg.pre,List.mem_flatten,List.mem_map]at hv
  obtain⟨l,⟨f,hf,rfl⟩,m⟩:=hv
  rw [← ke f hf,List.mem_map]at m
  obtain⟨i,hi,rfl⟩:=m
  exact absurd PF (xj e f hf i hi)
theorem sA {k:Int} {x:Int} : ∀ {l:List It},x∈iL k l↔∃ i∈l,(k==0 || i.s.kind==k)=true∧i.s.id=x
 | []=>by simp [iL]
 | a::l=>by
  simp only [iL]
  split
  ·rename_i c
   simp only [List.mem_cons,sA (l:=l),exists_eq_or_imp,c,true_and]
   exact or_congr_left ⟨Eq.symm,Eq.symm⟩
  ·rename_i c
   have c':(k==0 || a.s.kind==k)=false:=by simpa using c
   simp only [List.mem_cons,sA (l:=l),exists_eq_or_imp,c',Bool.false_eq_true,false_and,false_or]
theorem zf {l:List Int} {n:Int} (h:jc l n≠0):jc l n∈l:=by
 unfold jc at *
 split
 ·rename_i x e;exact List.mem_of_getElem? e
 ·rename_i e;rw [e]at h;exact absurd rfl h
theorem HI {p:Pg} (hb:p.may=true) {k n:Int} (h:jc (iL k p.all) n≠0):p.j8 (jc (iL k p.all) n)∈p.pre∧(p.j8 (jc (iL k p.all) n)).id=jc (iL k p.all) n:=by
 obtain⟨i,h1,_,h2⟩:=sA.1 (zf h)
 exact J7 hb ⟨i.s,by rw [← (nR hb).2];exact List.mem_map_of_mem h1,h2⟩
theorem MH : ∃ F V,j9.procs[0]? = some F∧F.body[1]? = some V∧V∈j9.pre∧(j9.arity.1==0 && (V.j6 j9 && V.mf j9))=true∧
 (j9.arity.1==0 && (({V with name:= [118]} : Sm).j6 j9 && ({V with name:= [118]} : Sm).mf j9))=false:=by
 refine⟨_,_,rfl,rfl, ?_,by decide +kernel,by decide +kernel⟩
 simp [j9,Pg.pre,Sm.fb,Sm.pre]
theorem PG:Gx.kL:=⟨yQ (by decide +kernel) (by decide +kernel),by decide +kernel⟩
theorem HJ:Gx.alias=(1,0):=by decide +kernel
theorem J8 (s:St):aI Try.prog oH [] s (.bool true) s:=by
 refine aI.pure ?_ rfl rfl s
 have hS:=fun s=>PE s
 obtain⟨F,V,hF,hV,hm,e1,e2⟩:=MH
 have hv:=x5.pre V hm
 have f1:=fun s=>BF x5 hv s
 have f2:=fun s=>BF (v:= {V with name:= [118]}) x5 hv s
 rw [e1]at f1
 rw [e2]at f2
 have f3:=fun s=>(zb PG s).CH (d:= .agg [.slice .full 0 [], .slice .full 0 []]) (Wk.agg (.cons (Wk.nil _ _ _) (.cons (Wk.nil _ _ _) .nil)))
 simp only [HJ]at f3
 generalize j9=P at *
 simp only [cB,wP]at f1 f2
 have w1:((1:Int)==1)=true:=rfl
 have w3:Int.toNat 1=1:=rfl
 have w2:((0:Int)==0)=true:=rfl
 unfold S0
 refine aI.go wH rfl fun B Q hB hQ=> ?_
 have⟨hD,hJ,hP,hY⟩:=bZ
 repeat' (first
 | simp only [go_sem,hD,hJ,hP,hY,wP,hF,O3,hV,cB,w1,w2,w3,Bool.not_false]
 | (with_reducible refine CU (hS _) ?_)
 | (with_reducible refine CU (f1 _) ?_)
 | (with_reducible refine CU (f2 _) ?_)
 | (with_reducible refine CU (f3 _) ?_)
 | (with_reducible refine aJ hQ ?_;simp only [ay,az,Option.some.injEq,exists_eq_left',go_sem,hD,hJ,hP,hY];repeat' (first | exact Ok.out | with_reducible refine aM ?_ ?_ | (simp;done))))
end Go.Abs

/-! LawAl2 -/

namespace Go.Abs
set_option maxRecDepth 8000
open Go.Proofs
theorem J9 {p:Pg} (h:(p.arity.1==0)=true) (h2:(p.alias.1==0)=true) : ∀ v∈p.pre,(v.kind==4)=true→v.mf p=true:=by
 unfold Pg.alias at h2
 rw [if_pos h]at h2
 intro v hv hk
 have : ∀ l:List Sm,((lM 8 (BE p l)).1==0)=true→∀ v∈l,(v.kind==4)=true→v.mf p=true:=by
  intro l
  induction l with
  | nil=>intro _ v m;cases m
  | cons a l ih=>
   intro h v m hk
   simp only [BE]at h
   split at h
   ·cases h
   ·rename_i c
    rcases List.mem_cons.1 m with rfl | m
    ·simpa [hk]using c
    ·exact ih h v m hk
 exact this _ h2 v hv hk
theorem q8 {nm:aD} {T:List aD} : ∀ {l:List Ar} {seen:List aD},jL nm T seen l=true→∀ a∈l,a.ref=true→dG T a.name=false
 | a::l,seen,h,b,m,hr=>by
  simp only [jL]at h
  split at h
  ·split at h
   ·cases h
   ·rename_i c
    simp only [Bool.or_eq_true,not_or,Bool.not_eq_true]at c
    rcases List.mem_cons.1 m with rfl | m
    ·exact c.2.2
    ·exact q8 h b m hr
  ·rename_i c
   rcases List.mem_cons.1 m with rfl | m
   ·exact absurd hr c
   ·exact q8 h b m hr
theorem xk (p:Pg) (n:Int) (s:St):aI Try.prog nq [.agg (bN p), .int .i64 n] s (.bool true) s:=by
 refine aI.pure ?_ (by simp [D.bE,D.ok,jh]) rfl s
 have h1:=fun s=>J8 s
 have h2:=fun s=>PA p s
 unfold S0
 rcases Bool.eq_false_or_eq_true (decide (p.uN≤20000))with hw | hw
 case inr=>
  simp only [hw]at h2
  refine aI.go gD rfl fun B Q hB hQ=> ?_
  have⟨hD,hJ,hP,hY⟩:=bZ
  repeat' (first
 | simp only [go_sem,hD,hJ,hP,hY]
 | (with_reducible refine CU (h1 _) ?_)
 | (with_reducible refine CU (h2 _) ?_)
 | (with_reducible first | refine cy fun hc=> ?_ | refine cz fun hc=> ?_ | refine cA (fun hc=> ?_) fun hc=> ?_) <;> (try simp only [hc,bs, ↓reduceIte]at h) <;> try simp only [hc]
 | (with_reducible refine aJ hQ ?_;exact jE)
 | (cases h;done))
 simp only [hw]at h2
 obtain⟨dJ,Rl⟩:=E9 (of_decide_eq_true hw)
 have ho:p.kL:=⟨Rl,by omega⟩
 obtain⟨rl,qu,vg⟩:=ho.procs
 have h3:=fun s=>vN ho s
 have h4:=fun s=>zb ho s
 have b0:(p.arity.1 != 0) = !(p.arity.1==0):=rfl
 have b3:(p.alias.1 != 0) = !(p.alias.1==0):=rfl
 rcases Bool.eq_false_or_eq_true (p.arity.1==0)with b1 | b1
 case inr=>
  rw [b1]at b0
  refine aI.go gD rfl fun B Q hB hQ=> ?_
  have⟨hD,hJ,hP,hY⟩:=bZ
  repeat' (first
 | simp only [go_sem,hD,hJ,hP,hY,b0,Bool.not_false]
 | (with_reducible refine CU (h1 _) ?_)
 | (with_reducible refine CU (h2 _) ?_)
 | (with_reducible refine CU (h3 _) ?_)
 | (with_reducible first | refine cy fun hc=> ?_ | refine cz fun hc=> ?_ | refine cA (fun hc=> ?_) fun hc=> ?_) <;> (try simp only [hc,bs, ↓reduceIte]at h) <;> try simp only [hc]
 | (with_reducible refine aJ hQ ?_;(try cases h);simp only [ay,az,c9,da,go_sem,hD,hJ,hP,hY,b0,Bool.not_false];try exact lq)
 | (cases h;done))
 rw [b1]at b0
 rcases Bool.eq_false_or_eq_true (p.alias.1==0)with b2 | b2
 case inr=>
  rw [b2]at b3
  refine aI.go gD rfl fun B Q hB hQ=> ?_
  have⟨hD,hJ,hP,hY⟩:=bZ
  repeat' (first
 | simp only [go_sem,hD,hJ,hP,hY,b0,b3,Bool.not_true,Bool.not_false]
 | (with_reducible refine CU (h1 _) ?_)
 | (with_reducible refine CU (h2 _) ?_)
 | (with_reducible refine CU (h3 _) ?_)
 | (with_reducible refine CU (h4 _) ?_)
 | (with_reducible first | refine cy fun hc=> ?_ | refine cz fun hc=> ?_ | refine cA (fun hc=> ?_) fun hc=> ?_) <;> (try simp only [hc,bs, ↓reduceIte]at h) <;> try simp only [hc]
 | (with_reducible refine aJ hQ ?_;(try cases h);simp only [ay,az,c9,da,go_sem,hD,hJ,hP,hY,b0,b3,Bool.not_true,Bool.not_false];try exact lq)
 | (cases h;done))
 rw [b2]at b3
 have hb:=yS (vS b1).1
 have Lp:=(x4 hb).1
 have h5:=fun s=>Rh (p:=p) (by omega) (by omega) 4 s
 have h6:=fun s=>Pt (l:=iL 4 p.all) (by have:=vT 4 p.all;omega) n s
 have hV : ∀ a∈(p.j8 (jc (iL 4 p.all) n)).args,a.ref=true→dG (p.jb (p.j8 (jc (iL 4 p.all) n)).proc) a.name=false:=by
  by_cases hz:jc (iL 4 p.all) n=0
  ·rw [hz]
   intro a m
   have:p.j8 0=AW:=by
    unfold Pg.j8
    cases e:jx 0 p.procs with
    | none=>rfl
    | some r=>
     obtain⟨f,h1,h2,h3,_⟩:=pg e
     have hm:r.1.s∈p.pre:=by
      simp only [Pg.pre,List.mem_flatten,List.mem_map]
      exact⟨_,⟨f,h1,rfl⟩,by rw [← (nR hb).1 f h1];exact List.mem_map_of_mem h2⟩
     obtain⟨i,hi⟩:=List.getElem?_of_mem hm
     have:=Bp hb hi
     omega
   rw [this]at m
   cases m
  ·obtain⟨i,g1,g2,g3⟩:=sA.1 (zf hz)
   obtain⟨hm,PF⟩:=HI hb hz
   have hk:((p.j8 (jc (iL 4 p.all) n)).kind==4)=true:=by
    have yO:i.s∈p.pre:=by rw [← (nR hb).2];exact List.mem_map_of_mem g1
    obtain⟨j1,e1⟩:=List.getElem?_of_mem hm
    obtain⟨j2,e2⟩:=List.getElem?_of_mem yO
    have f1:=Bp hb e1
    have f2:=Bp hb e2
    have:j1=j2:=by rw [PF]at f1;rw [g3]at f2;omega
    subst this
    rw [e1]at e2
    rw [Option.some.inj e2]
    simpa using g2
   exact q8 (J9 b1 b2 _ hm hk)
 generalize jc (iL 4 p.all) n=id at *
 have h7:=fun s=>Px (p:=p) (by omega) (by omega) id s
 have hVl:(p.j8 id).args.length<1000000000:=by
  unfold Pg.j8
  cases e:jx id p.procs with
  | none=>decide
  | some r=>
   obtain⟨f,h1,h2,h3,_⟩:=pg e
   have hm:r.1.s∈p.pre:=by
    simp only [Pg.pre,List.mem_flatten,List.mem_map]
    exact⟨_,⟨f,h1,rfl⟩,by rw [← (nR hb).1 f h1];exact List.mem_map_of_mem h2⟩
   exact sw (ho.pre _ hm)
 generalize p.j8 id=V at *
 have h8:=fun s=>uw ho V.proc s
 have hGl:=Fb ho V.proc
 have Us:=fun x s=>O2 (l:=p.globals) (by omega) x .shared s
 have hint:=fun x s=>O2 (l:=p.jb V.proc) (by omega) x .shared s
 refine aI.go gD rfl fun B Q hB hQ=> ?_
 have⟨hD,hJ,hP,hY⟩:=bZ
 repeat' (first
 | simp only [go_sem,hD,hJ,hP,hY,b0,b3,Bool.not_true]
 | (with_reducible refine CU (h1 _) ?_)
 | (with_reducible refine CU (h2 _) ?_)
 | (with_reducible refine CU (h3 _) ?_)
 | (with_reducible refine CU (h4 _) ?_)
 | (with_reducible refine CU (h5 _) ?_)
 | (with_reducible refine CU (h6 _) ?_)
 | (with_reducible refine CU (h7 _) ?_)
 | (with_reducible first | refine cy fun hc=> ?_ | refine cz fun hc=> ?_ | refine cA (fun hc=> ?_) fun hc=> ?_) <;> (try simp only [hc,bs, ↓reduceIte]at h) <;> try simp only [hc]
 | (with_reducible refine aJ hQ ?_;(try cases h);simp only [ay,az,c9,da,go_sem,hD,hJ,hP,hY,b0,b3,Bool.not_true];try exact lq)
 | (cases h;done))
 refine dD 2 0 (bp.ind (ι:=List Ar×Nat) (fun i=>V.args.drop i.2=i.1) (fun i=>i.1.length)
  (fun i=> [(2, .ptr 0 0),(5, .ptr 1 0),(30, .slice .shared 6 (V.args.map dh)),(31, .int .i64 (V.args.length:Int)),(32, .int .i64 (i.2:Int))]) (fun i=>⟨[bN p,bd V],[]⟩) ?_ (V.args,0) rfl)
 rintro⟨rest,k⟩ i1 IH
 dsimp only at i1
 cases rest with
 | nil=>
  have hD:=drop_nil i1
  repeat' (first
 | simp only [go_sem,hD,hJ,hP,hY]
 | (with_reducible first | refine cy fun hc=> ?_ | refine cz fun hc=> ?_ | refine cA (fun hc=> ?_) fun hc=> ?_) <;> (try simp only [hc,bs, ↓reduceIte]at h) <;> try simp only [hc]
 | (with_reducible refine aJ hQ ?_;exact jE)
 | (cases h;done))
 | cons x rest=>
  obtain⟨hJ,g2,hD,g4⟩:=drop_cons i1
  have bq:k<4611686018427387904:=by omega
  have hx:=hV x (List.mem_of_getElem? hJ)
  rcases Bool.eq_false_or_eq_true x.ref with c1 | c1
  ·have hx:=hx c1
   rcases Bool.eq_false_or_eq_true (dG p.globals x.name)with c2 | c2
   all_goals
    repeat' (first
 | simp only [go_sem,hD,hJ,hP,hY,c1,c2,hx]
 | (with_reducible refine CU (h8 _) ?_)
 | (with_reducible refine CU (Us _ _) ?_)
 | (with_reducible refine CU (hint _ _) ?_)
 | (with_reducible first | refine cy fun hc=> ?_ | refine cz fun hc=> ?_ | refine cA (fun hc=> ?_) fun hc=> ?_) <;> (try simp only [hc,bs, ↓reduceIte]at h) <;> try simp only [hc]
 | (with_reducible refine aJ hQ ?_;(try cases h);simp only [ay,az,c9,da,go_sem,hD,hJ,hP,hY,c1,c2,hx];try exact lq)
 | (cases h;done))
    refine dn 2 0 ?_ ?_ (IH (rest,k+1) g2 (Nat.lt_succ_self _))
    ·(simp only [go_sem,hD,hJ,hP,hY,aF bq];try exact bo)
    ·(simp only [go_sem,hD,hJ,hP,hY,aF bq];try exact bo)
  ·repeat' (first
 | simp only [go_sem,hD,hJ,hP,hY,c1]
 | (with_reducible first | refine cy fun hc=> ?_ | refine cz fun hc=> ?_ | refine cA (fun hc=> ?_) fun hc=> ?_) <;> (try simp only [hc,bs, ↓reduceIte]at h) <;> try simp only [hc]
 | (with_reducible refine aJ hQ ?_;(try cases h);simp only [ay,az,c9,da,go_sem,hD,hJ,hP,hY,c1];try exact lq)
 | (cases h;done))
   refine dn 2 0 ?_ ?_ (IH (rest,k+1) g2 (Nat.lt_succ_self _))
   ·(simp only [go_sem,hD,hJ,hP,hY,aF bq];try exact bo)
   ·(simp only [go_sem,hD,hJ,hP,hY,aF bq];try exact bo)
end Go.Abs

/-! Glue2 -/

namespace Go.Abs
def M0:Map:=⟨fun _ _=>none,fun _=>(0, .any),fun _=>none⟩
def Kept (w w':World):Prop:=w.keptBut w' (fun _=>False)∧∀ a:Addr,a.block<w.heap.size→w'.frozen? a=w.frozen? a
theorem Kept.frame {w w':World} (h:Kept w w') (may:MemPlace→Prop):w.keptBut w' may:=World.keptBut_mono (fun _ f=>f.elim) h.1
theorem Ext.PH {M M':Map} {s':St} {w w':World} (e:Ext M S0 w M' s' w'):Kept w w':=by
 have hh : ∀ b,b<w.heap.size→w'.heap[b]? = w.heap[b]? :=fun b hb=>
  e.kept b hb (fun o ho=>by simp [S0]at ho) (fun t c z hl=>by obtain⟨n,hn⟩:=hl;simp [S0]at hn)
 refine⟨⟨e.os,e.output,fun i hi=> ?_⟩,fun a ha=> ?_⟩
 ·rw [hh i hi]
  exact(World.keptBut_refl w (fun _=>False)).2.2 i hi
 ·simp only [World.frozen?,hh _ ha]
theorem Ut (G:Nat→Nat→Option Value) (w:World) (h : ∀ b o v,G b o=some v→w.cell? ⟨b,o,none⟩=some v∧v.oneCell'=true):Rel ⟨G,fun _=>(0, .any),fun _=>none⟩ S0 w:=
 ⟨h,fun o ds e=>by simp [S0]at e,fun o ho=>by simp [S0]at ho,fun o o' ho=>by simp [S0]at ho,fun t n e=>by simp [S0]at e,
  fun t b c z o hl=>by obtain⟨n,hn⟩:=hl;simp [S0]at hn,fun t t' b c z c' z' hl=>by obtain⟨n,hn⟩:=hl;simp [S0]at hn⟩
def Fc (w:World):Prop:=∀ g cs,MQ g=some cs→∃ T fr,w.heap[g]? = some (.cells cs T fr)
theorem Rm (G:Nat→Nat→Option Value) {w:World} (h:Fc w):Laid ⟨G,fun _=>(0, .any),fun _=>none⟩ S0 w:=
 fun g cs hg=>⟨h g cs hg,fun o ho=>by simp [S0]at ho,fun t c z hl=>by obtain⟨n,hn⟩:=hl;simp [S0]at hn⟩
theorem HK {P:Program} {f:FuncId} {args:List D} {eH:Array Value} {w:World} {G:Nat→Nat→Option Value} (h:dA P f args S0 fun d _=>d = .bool true)
 (hG : ∀ b o v,G b o=some v→w.cell? ⟨b,o,none⟩=some v∧v.oneCell'=true) (hl:eH.size=args.length)
 (ha : ∀ (i:Nat) (d:D) (v:Value),args[i]? = some d→eH[i]? = some v→RD ⟨G,fun _=>(0, .any),fun _=>none⟩ S0 d v) (iD:Fc w) :
 Calls P f eH w fun e w'=>e = .returned (.bool true)∧Kept w w':=by
 refine(h _ w eH (Ut G w hG) (Rm G iD) hl ha).mono fun e w' hw=> ?_
 obtain⟨M',d,v,s',rfl,rfl,he,_,hv⟩:=hw
 rw [hv.jX]
 exact⟨rfl,he.PH⟩
section
variable {P:Program} {H:Type} {enc:TypeId×Value→H}
theorem BH {f:Func} {s:ChangeSpec} {apart fresh handsOn again:Bool} {W W':World} {args:Array Value} {v:Value} {ds gs:List (DataW H)} {before pa pv:List MemPlace}
 (hW:DataW.Whole enc P f.params.toList s.vars apart W args.toList ds gs before)
 (PI : ∀ (b:Nat) (sp:Nat→Bool) (hd:Bool),DataW.TrodAll enc P W' b sp hd f.resultTypes.toList (v.resultList f.resultTypes.size) (s.fn H (ds++gs)).results [])
 (zH : ∀ sp:Nat→Bool,(∀ p∈before,sp p.block=true)→DataW.TrodAll enc P W' 0 sp true f.params.toList args.toList (s.fn H (ds++gs)).args pa)
 (xl : ∀ sp:Nat→Bool,(∀ p∈before,sp p.block=true)→DataW.TrodVars enc P W' sp s.vars (s.fn H (ds++gs)).vars pv)
 (qu:before=pa++pv) (hk:Kept W W')
 (yo : ∀ (j:Nat) (t:TypeId) (r:Value),f.resultTypes[j]? = some t→(v.resultList f.resultTypes.size)[j]? = some r→Value.okWide P W' .any 0 t r) :
 s.post enc P f apart fresh handsOn again W args v W':=by
 have hD : ∀ p∈before,p.block<W.heap.size:=fun p hp=>hW.lt p hp
 have hold : ∀ p∈before,(fun b=>decide (b<W.heap.size)) p.block=true:=fun p hp=>by simpa using hD p hp
 refine⟨ds,gs,before,[],pa,pv,hW,PI _ _ _,zH _ hold,xl _ hold,World.keptBut_mono (fun p hp=>⟨hp, ?_⟩) (hk.frame (· ∈before)),fun _=> ?_⟩
 ·rw [qu,List.mem_append]at hp
  exact Or.inr hp
 ·obtain⟨_,_,_,_,_,hz,hn⟩:=hW
  refine⟨yo,_,_,([]++pa)++pv,⟨[]++pa,pv,ChangeShapes.trodAll_append (zH _ (fun _ _=>rfl)) (PI _ _ _),xl _ (fun _ _=>rfl),rfl, ?_, ?_⟩, ?_⟩
  ·intro b off hp
   have kH:MemPlace.cell b off∈before:=by rw [qu];simpa using hp
   rw [hk.2 _ (hD _ kH)]
   exact hz b off kH
  ·intro ha
   have:=hn ha
   rw [qu]at this
   simpa using this
  ·intro p hp _
   rw [qu]
   simpa using hp
end
end Go.Abs

/-! Join -/

namespace Go.Abs
open Go.RowKit Go.ChangeShapes Go.WideShapes
def x7 (w:World) (b o:Nat):Option Value:=
 match w.cell? ⟨b,o,none⟩with
 | some v=>if v.oneCell'=true then some v else none
 | none=>none
theorem CS {w:World} (b o:Nat) (v:Value) (h:x7 w b o=some v):w.cell? ⟨b,o,none⟩=some v∧v.oneCell'=true:=by
 unfold x7 at h
 split at h
 ·split at h
  ·cases h;exact⟨‹_›, ‹_›⟩
  ·cases h
 ·cases h
def uy (w:World):Map:=⟨x7 w,fun _=>(0, .any),fun _=>none⟩
theorem Kept.sameAt {w w':World} (h:Kept w w') {p:MemPlace} (hp:p.block<w.heap.size):w.sameAt w' p:=by
 have hk:=h.1.2.2 p.block hp
 cases p with
 | cell b off=>
  simp only [MemPlace.block]at hk hp
  simp only [World.sameAt,World.cell?]
  split at hk
  ·rename_i c t fr c' t' fr' e e'
   rw [e,e']
   simp only [hk.2.2.2 off (fun f=>f)]
  ·rename_i es clock sG PJ e e'
   rw [e,e']
  ·rw [hk]
 | map b=>
  simp only [MemPlace.block]at hk hp
  simp only [World.sameAt]
  split at hk
  ·rename_i c t fr c' t' fr' e e'
   rw [e,e']
   obtain⟨rfl,rfl,hs,hc⟩:=hk
   have:c'=c:=by
    apply Array.ext_getElem?
    intro i
    exact hc i (fun f=>f)
   rw [this]
  ·rename_i es clock sG PJ e e'
   rcases hk with f | ⟨rfl,rfl⟩
   ·exact f.elim
   ·rw [e,e']
  ·exact hk
section
variable {P:Program} {H:Type} {enc:TypeId×Value→H} {T:TypeId→Prop}
theorem xm (K:Kids P T) (hz : ∀ {t e:TypeId},T t→P.underlying t=some (.slice e)→0<P.cellsOf e) {W W':World} (hk:Kept W W') {sp:Nat→Bool} :
 ∀ {ts:List TypeId} {vs:List Value} {ds:List (DataW H)} {ps:List MemPlace},(∀ t∈ts,T t)→(∀ p∈ps,p.block<W.heap.size)→(∀ p∈ps,sp p.block=true)→
  DataW.TrodAll enc P W 0 (fun _=>true) true ts vs ds ps→DataW.TrodAll enc P W' 0 sp true ts vs ds ps
 | [],[],[],_,_,_,_,h=>h
 | t::ts,v::vs,d::ds,ps,hT,hD,hs,⟨p,q,⟨n,h1⟩,h2,e⟩=>by
  subst e
  refine⟨p,q,⟨n,DataW.trod_stays K hz (fun f=>by cases f) (hT t (List.mem_cons_self ..)) h1 (fun x hx=>hk.sameAt (hD x (List.mem_append_left _ hx))) (fun x hx=>hs x (List.mem_append_left _ hx))⟩, ?_,rfl⟩
  exact xm K hz hk (fun t ht=>hT t (List.mem_cons_of_mem _ ht)) (fun x hx=>hD x (List.mem_append_right _ hx)) (fun x hx=>hs x (List.mem_append_right _ hx)) h2
 | [],[],_::_,_,_,_,_,h=>h.elim
 | [],_::_,_,_,_,_,_,h=>h.elim
 | _::_,[],_,_,_,_,_,h=>h.elim
 | _::_,_::_,[],_,_,_,_,h=>h.elim
theorem Ka (K:Kids P T) (hz : ∀ {t e:TypeId},T t→P.underlying t=some (.slice e)→0<P.cellsOf e) {f:Func} {s:ChangeSpec} {apart fresh handsOn again:Bool} {tb:TypeId} {W W':World} {args:Array Value} {ds gs:List (DataW H)} {before:List MemPlace}
 (hT : ∀ t∈f.params.toList,T t) (hb:P.underlying tb=some .bool) (hr:f.resultTypes = #[tb]) (xl:s.vars = []) (hW:DataW.Whole enc P f.params.toList s.vars apart W args.toList ds gs before)
 (sU:s.fn H (ds++gs) = {results:= [.lit (.bool true)],args:=ds}) (hk:Kept W W'):s.post enc P f apart fresh handsOn again W args (.bool true) W':=by
 have PK:=hW
 have hD : ∀ p∈before,p.block<W.heap.size:=fun p hp=>hW.lt p hp
 obtain⟨p,q,hA,hV,rfl,hfz,hnd⟩:=hW
 rw [xl]at hV
 obtain⟨rfl,rfl⟩:=trodVars_none hV
 simp only [List.append_nil]at hD sU
 refine BH (pa:=p) (pv:= []) PK (fun b sp hd=> ?_) (fun sp vd=> ?_) (fun sp vd=> ?_) rfl hk (ok_one hr rfl (okWide_bool_mk hb _))
 ·rw [List.append_nil,sU,hr]
  exact trodAll_cons_mk (shut_bool hb _) trodAll_mk0
 ·rw [List.append_nil,sU]
  simp only [List.append_nil]at vd
  exact xm K hz hk hT hD vd hA
 ·rw [List.append_nil,sU,xl]
  rfl
theorem MJ {f:FuncId} {args:List D} {eH:Array Value} {w:World} (h:dA P f args S0 fun d _=>d = .bool true) (hl:eH.size=args.length)
 (ha : ∀ (i:Nat) (d:D) (v:Value),args[i]? = some d→eH[i]? = some v→RD (uy w) S0 d v) (iD:Fc w):Calls P f eH w fun e w'=>e = .returned (.bool true)∧Kept w w':=
 HK (G:=x7 w) h CS hl ha iD
end
end Go.Abs

/-! Binds1 -/

namespace Go.Abs
open Go.Proofs
def xn (n:Int):List D:= [.int .i64 n]
theorem Rn (n:Int):D.bE 0 0 (xn n)=true:=rfl
theorem PN (n m:Nat) (l:List Int):D.gL n m (l.map xn)=l.map xn:=jF Rn n m l
attribute [go_sem] xn PN
def Ro (op:Int):aD:=
 if op=5 then [42]else if op=6 then [47]else if op=7 then [37]else if op=8 then [43]else if op=9 then [45]else if op=10 then [60]else if op=11 then [60,61]
 else if op=12 then [62]else if op=13 then [62,61]else if op=14 then [61,61]else if op=15 then [33,61]else if op=16 then [38,38]else [124,124]
def abz (op:Int):Int:=(ON (Ro op)).1
def HL:Nat→List aD
 | 0=> []
 | n+1=>HL n++ [[UInt8.ofNat (97+n)]]
end Go.Abs

/-! Join2 -/

namespace Go.Abs
open Go.RowKit Go.ChangeShapes Go.WideShapes
end Go.Abs

/-! Join3 -/

namespace Go.Abs
open Go.RowKit Go.ChangeShapes Go.WideShapes
def dz (W:World) (ds:List D) (cs:List Value):Prop:=ds.length=cs.length∧(∀ (i:Nat) (d:D) (v:Value),ds[i]? = some d→cs[i]? = some v→RD (uy W) S0 d v)∧∀ v∈cs,v.oneCell'=true
theorem dz.one {W:World} {d:D} {v:Value} (h:RD (uy W) S0 d v) (hv:v.oneCell'=true):dz W [d] [v]:=by
 refine⟨rfl,fun i d' v' h1 h2=> ?_,fun u hu=>by simp at hu;subst hu;exact hv⟩
 cases i with
 | zero=>simp at h1 h2;subst h1 h2;exact h
 | succ i=>simp at h1
theorem dz.app {W:World} {ds kC:List D} {cs fV:List Value} (h:dz W ds cs) (h':dz W kC fV):dz W (ds++kC) (cs++fV):=by
 obtain⟨a1,a2,a3⟩:=h
 obtain⟨b1,b2,b3⟩:=h'
 refine⟨by simp [a1,b1],fun i d v h1 h2=> ?_,fun v hv=> ?_⟩
 ·by_cases hi:i<ds.length
  ·rw [List.getElem?_append_left hi]at h1
   rw [List.getElem?_append_left (by omega)]at h2
   exact a2 i d v h1 h2
  ·rw [List.getElem?_append_right (by omega)]at h1
   rw [List.getElem?_append_right (by omega), ← a1]at h2
   exact b2 _ d v h1 h2
 ·rcases List.mem_append.1 hv with hv | hv
  ·exact a3 v hv
  ·exact b3 v hv
theorem dz.at {W:World} {ds kC:List D} {cs:List Value} {o n:Nat} (h:dz W ds ((cs.drop o).take n)) (h':dz W kC (cs.drop (o+n))):dz W (ds++kC) (cs.drop o):=by
 have e:cs.drop o=(cs.drop o).take n++cs.drop (o+n):=by rw [← List.drop_drop,List.take_append_drop]
 rw [e]
 exact h.app h'
theorem dz.end {W:World} {cs:List Value} {o:Nat} (h:cs.length=o):dz W [] (cs.drop o):=by
 rw [← h,List.drop_length]
 exact⟨rfl,fun i d v h=>by simp at h,fun v hv=>by cases hv⟩
section
variable {H:Type} {enc:TypeId×Value→H} {P:Program} {W:World} {sp:Nat→Bool}
def structOf (P:Program) (t:TypeId):List (TypeId×Nat):=
 match P.underlying t with
 | some (.struct fs)=>fs.toList.map fun f=>(f.type,f.offset)
 | _=> []
theorem iO {t:TypeId} {l:List (TypeId×Nat)} {fuel:Nat} {cs:List Value} {x:DataW H×List MemPlace} (h:structOf P t=l) (dS:l≠ []) (ht:DataW.trod enc P W 0 sp true fuel t cs=some x) :
 ∃ n,fuel=n+1∧cs.length=P.cellsOf t∧∀ (i:Nat) (f:TypeId×Nat),l[i]? = some f→∃ y,DataW.trod enc P W 0 sp true n f.1 ((cs.drop f.2).take (P.cellsOf f.1))=some y:=by
 unfold structOf at h
 split at h
 ·rename_i fs hu
  obtain⟨xs,n,e,_,hl,hlen,hf⟩:=DataW.trod_struct hu ht
  refine⟨n,e,hl,fun i f hi=> ?_⟩
  subst h
  rw [List.getElem?_map,Option.map_eq_some_iff]at hi
  obtain⟨g,hg,rfl⟩:=hi
  have KR:fs[i]? = some g:=by simpa using hg
  have hi:i<xs.length:=by rw [hlen];exact(Array.getElem?_eq_some_iff.1 KR).1
  exact⟨xs[i],by rw [hf i g KR,List.getElem?_eq_getElem hi]⟩
 ·exact absurd h.symm dS
theorem zF {t:TypeId} {l:List (TypeId×Nat)} (h:structOf P t=l) (dS:l≠ []) : ∃ fs,P.underlying t=some (.struct fs):=by
 unfold structOf at h
 split at h
 ·exact⟨_, ‹_›⟩
 ·exact absurd h.symm dS
theorem vm {α:Type} {Q:Nat→α→Prop} : ∀ n,(∀ i,i<n→∃ y,Q i y)→∃ ys:List α,ys.length=n∧∀ i y,ys[i]? = some y→Q i y
 | 0,_=>⟨[],rfl,fun i y h=>by simp at h⟩
 | n+1,h=>by
  obtain⟨ys,h1,h2⟩:=vm n fun i hi=>h i (by omega)
  obtain⟨y,hy⟩:=h n (by omega)
  refine⟨ys++ [y],by simp [h1],fun i z hz=> ?_⟩
  by_cases hi:i<ys.length
  ·rw [List.getElem?_append_left hi]at hz;exact h2 i z hz
  ·rw [List.getElem?_append_right (by omega)]at hz
   have:i - ys.length=0:=by
    rcases Nat.eq_zero_or_pos (i - ys.length)with h | h
    ·exact h
    ·rw [List.getElem?_eq_none (by simp only [List.length_cons,List.length_nil];omega)]at hz;cases hz
   rw [this]at hz
   simp at hz
   subst hz
   have:i=n:=by omega
   subst this
   exact hy
theorem lb {α:Type} (en:α→List D) (good:α→Prop) {z:Nat} {t e:TypeId} {fuel:Nat} {cs:List Value} {x:DataW H×List MemPlace} (ht:P.underlying t=some (.slice e)) (hz:P.cellsOf e=z) (hz0:0<z) (PO : ∀ y,(en y).length=z)
 (hel : ∀ n<fuel,∀ cs x,DataW.trod enc P W 0 sp true n e cs=some x→∃ y,dz W (en y) cs∧good y) (h:DataW.trod enc P W 0 sp true fuel t cs=some x) :
 ∃ ys:List α,dz W [.slice .shared z (ys.map en)] cs∧∀ y∈ys,good y:=by
 rcases DataW.trod_slice ht h with ⟨rfl,_⟩ | ⟨a,len,cap,elems,rest,n,hn,rfl,_,hb,hl,hm,hlen,p8,_,_⟩
 ·exact⟨[],dz.one (.gf _ _ _ rfl trivial) rfl,fun y hy=>by cases hy⟩
 ·by_cases h0:len=0
  ·subst h0
   exact⟨[],dz.one (.jU _ _ _) rfl,fun y hy=>by cases hy⟩
  ·obtain⟨ys,hys,vB⟩:=vm (Q:=fun i y=>good y∧∃ fV,W.cells? 0 (a.add (i*z)) z=some fV∧dz W (en y) fV) len fun i hi=>by
    have hc:=p8 i hi
    rw [List.getElem?_eq_getElem (by omega),hz,Option.bind_eq_some_iff]at hc
    obtain⟨fV,h1,h2⟩:=hc
    obtain⟨y,h3,h4⟩:=hel n (by omega) _ _ h2
    exact⟨y,h4,fV,h1,h3⟩
   have cell : ∀ i y,ys[i]? = some y→∀ (j:Nat) d,(en y)[j]? = some d→∃ v,W.cell? ((a.add (i*z)).add j)=some v∧RD (uy W) S0 d v∧v.oneCell'=true:=by
    intro i y hy j d hd
    obtain⟨_,fV,h1,h2,h3,h4⟩:=vB i y hy
    obtain⟨_,k1,k2⟩:=World.cells?_some h1
    have hj:j<z:=by rw [← PO y];exact(List.getElem?_eq_some_iff.1 hd).1
    have hv:fV[j]? = some fV[j]:=List.getElem?_eq_getElem (by omega)
    exact⟨fV[j],by rw [k2 j hj,hv],h3 j d _ hd hv,h4 _ (List.getElem_mem _)⟩
   obtain⟨b,off,spot⟩:=a
   have Rp:spot=none:=by
    have hy:ys[0]? = some (ys[0]'(by omega)):=List.getElem?_eq_getElem (by omega)
    obtain⟨d,hd⟩ : ∃ d,(en (ys[0]'(by omega)))[0]? = some d:=⟨_,List.getElem?_eq_getElem (show 0<(en (ys[0]'(by omega))).length by rw [PO];exact hz0)⟩
    obtain⟨v,hv,_⟩:=cell 0 _ hy 0 _ hd
    have:=World.cell?_spot hv
    simpa [Addr.add]using this
   subst Rp
   have e:(ys.map en).length=len:=by simp [hys]
   have:=RD.slice (M:=uy W) (s:=S0) .shared z (ys.map en) b off cap (by omega) (fun row hr=>by obtain⟨y,_,rfl⟩:=List.mem_map.1 hr;exact PO y)
    (fun i row j d h1 h2=>by
     rw [List.getElem?_map,Option.map_eq_some_iff]at h1
     obtain⟨y,h1,rfl⟩:=h1
     obtain⟨v,hv,_,h4⟩:=cell i y h1 j d h2
     rw [add_plain,add_plain]at hv
     refine⟨v, ?_⟩
     show x7 W b (off+(i*z+j))=_
     unfold x7
     rw [show off+(i*z+j)=off+i*z+j by omega,hv]
     simp [h4])
    (fun i row j d u h1 h2 hu=>by
     rw [List.getElem?_map,Option.map_eq_some_iff]at h1
     obtain⟨y,h1,rfl⟩:=h1
     obtain⟨v,hv,h3,h4⟩:=cell i y h1 j d h2
     rw [add_plain,add_plain]at hv
     obtain⟨hu,_⟩:=CS _ _ _ hu
     rw [show off+(i*z+j)=off+i*z+j by omega,hv]at hu
     cases hu
     exact h3) trivial
   rw [e]at this
   refine⟨ys,dz.one this rfl,fun y hy=> ?_⟩
   obtain⟨i,hi⟩:=List.getElem?_of_mem hy
   exact(vB i y hi).1
theorem xo {t:TypeId} {fuel:Nat} {cs:List Value} {x:DataW H×List MemPlace} (ht:P.underlying t=some (.int .i64)) (h:DataW.trod enc P W 0 sp true fuel t cs=some x) : ∃ n:Int,dz W [.int .i64 n] cs∧n≤9223372036854775807∧ -9223372036854775808≤n:=by
 obtain⟨n,rfl,_,hw⟩:=DataW.trod_int ht h
 simp [Lit.wf,IntKind.min,IntKind.max,IntKind.signed,IntKind.bits]at hw
 exact⟨n,dz.one (.int _ _) rfl,by omega,by omega⟩
theorem x8 {t:TypeId} {fuel:Nat} {cs:List Value} {x:DataW H×List MemPlace} (ht:P.underlying t=some .bool) (h:DataW.trod enc P W 0 sp true fuel t cs=some x) : ∃ b:Bool,dz W [.bool b] cs:=by
 obtain⟨n,rfl,_⟩:=DataW.trod_bool ht h
 exact⟨n,dz.one (.bool _) rfl⟩
theorem pV {t:TypeId} {fuel:Nat} {cs:List Value} {x:DataW H×List MemPlace} (ht:P.underlying t=some .string) (h:DataW.trod enc P W 0 sp true fuel t cs=some x) : ∃ s:aD,dz W (encStr s) cs∧s.length≤maxLen:=by
 obtain⟨s,rfl,_,hm⟩:=DataW.trod_string ht h
 obtain⟨⟨l⟩⟩:=s
 exact⟨l,dz.one (.str l) rfl,hm⟩
theorem Rq {tE tI tN tS tK:TypeId} (hE:structOf P tE = [(tI,0),(tN,1),(tS,2),(tK,3)]) (Si:P.cellsOf tE=4) (hI:P.underlying tI=some (.int .i64)) (hN:P.underlying tN=some (.int .i64)) (hS:P.underlying tS=some .string) (hK:P.underlying tK=some (.slice tE))
 (cI:P.cellsOf tI=1) (cN:P.cellsOf tN=1) (cS:P.cellsOf tS=1) (cK:P.cellsOf tK=1) :
 ∀ (fuel:Nat) (cs:List Value) (x:DataW H×List MemPlace),DataW.trod enc P W 0 sp true fuel tE cs=some x→∃ y:Ex,dz W (bC y) cs∧y.mV:=by
 intro fuel
 induction fuel using Nat.strongRecOn with
 | _ fuel ih=>
  intro cs x h
  obtain⟨n,rfl,hl,hf⟩:=iO hE (by simp) h
  obtain⟨y0,h0⟩:=hf 0 _ rfl
  obtain⟨y1,h1⟩:=hf 1 _ rfl
  obtain⟨y2,h2⟩:=hf 2 _ rfl
  obtain⟨y3,h3⟩:=hf 3 _ rfl
  dsimp only at h0 h1 h2 h3
  rw [cI]at h0
  rw [cN]at h1
  rw [cS]at h2
  rw [cK]at h3
  obtain⟨op,r0,_⟩:=xo hI h0
  obtain⟨m,r1,hm,_⟩:=xo hN h1
  obtain⟨s,r2,_⟩:=pV hS h2
  obtain⟨ks,r3,hg⟩:=lb (W:=W) bC Ex.mV hK Si (by decide) KV (fun k hk cs x hx=>ih k (by omega) cs x hx) h3
  refine⟨⟨op,m,s,ks⟩, ?_,hm, ?_⟩
  ·have:=r0.at (r1.at (r2.at (r3.at (dz.end (by rw [hl,Si])))))
   rw [fG]
   simpa [encStr]using this
  ·clear r3
   induction ks with
   | nil=>exact trivial
   | cons k ks ihk=>exact⟨hg k (by simp),ihk fun y hy=>hg y (by simp [hy])⟩
theorem dz.agg {ds:List D} {v:Value} (h:dz W ds v.cells.toList) (hv : ∃ vs,v = .agg vs):RD (uy W) S0 (.agg ds) v:=by
 obtain⟨vs,rfl⟩:=hv
 obtain⟨h1,h2,h3⟩:=h
 have e:(Value.agg vs).cells=vs:=rfl
 rw [e]at h1 h2 h3
 refine .agg ds vs (by simpa using h1) (fun v hv=>h3 v (by simpa using hv)) fun i d v hd hv=>h2 i d v hd (by simpa using hv)
end
end Go.Abs

/-! Join4 -/

namespace Go.Abs
open Go.Proofs Go.RowKit Go.ChangeShapes Go.WideShapes
section
variable {H:Type} {enc:TypeId×Value→H} {W:World} {sp:Nat→Bool}
theorem HM (fuel:Nat) (cs:List Value) (x:DataW H×List MemPlace) (h:DataW.trod enc Try.prog W 0 sp true fuel 43 cs=some x) : ∃ y:Ex,dz W (bC y) cs∧y.mV:=
 Rq (tE:=43) (tI:=3) (tN:=2) (tS:=9) (tK:=41) (by kernel_rfl) (by kernel_rfl) (by kernel_rfl) (by kernel_rfl) (by kernel_rfl) (by kernel_rfl) (by kernel_rfl) (by kernel_rfl) (by kernel_rfl) (by kernel_rfl) _ _ _ h
theorem MK:Try.prog.underlying 22=some (.slice 9):=by kernel_rfl
theorem rM:Try.prog.underlying 9=some .string:=by kernel_rfl
theorem HN:Try.prog.underlying 3=some (.int .i64):=by kernel_rfl
theorem x9:Try.prog.underlying 4=some .bool:=by kernel_rfl
theorem uz:Try.prog.cellsOf 9=1:=by kernel_rfl
theorem PT:Try.prog.cellsOf 3=1:=by kernel_rfl
theorem ya:Try.prog.cellsOf 4=1:=by kernel_rfl
theorem yc:Try.prog.cellsOf 22=1:=by kernel_rfl
theorem Lv:Try.prog.cellsOf 43=4:=by kernel_rfl
theorem sB {fuel:Nat} {cs:List Value} {x:DataW H×List MemPlace} (h:DataW.trod enc Try.prog W 0 sp true fuel 22 cs=some x) : ∃ l:List aD,dz W [.slice .shared 1 (l.map encStr)] cs:=by
 obtain⟨l,h,_⟩:=lb (W:=W) encStr (fun _=>True) MK uz (by decide) (fun _=>rfl) (fun k hk cs x hx=>by
  obtain⟨s,hs,_⟩:=pV rM hx
  exact⟨s,hs,trivial⟩) h
 exact⟨l,h⟩
theorem PU {fuel:Nat} {cs:List Value} {x:DataW H×List MemPlace} (h:DataW.trod enc Try.prog W 0 sp true fuel 64 cs=some x) : ∃ y:Pm,dz W (fq y) cs:=by
 obtain⟨n,rfl,hl,hf⟩:=iO (l:= [(9,0),(4,1)]) (by kernel_rfl) (by simp) h
 have hc:Try.prog.cellsOf 64=2:=by kernel_rfl
 obtain⟨y0,h0⟩:=hf 0 _ rfl
 obtain⟨y1,h1⟩:=hf 1 _ rfl
 dsimp only at h0 h1
 rw [uz]at h0
 rw [ya]at h1
 obtain⟨s,r0,_⟩:=pV rM h0
 obtain⟨b,r1⟩:=x8 x9 h1
 refine⟨⟨s,b⟩, ?_⟩
 have:=r0.at (r1.at (dz.end (by rw [hl,hc])))
 simpa [encStr,fq]using this
theorem PV {fuel:Nat} {cs:List Value} {x:DataW H×List MemPlace} (h:DataW.trod enc Try.prog W 0 sp true fuel 51 cs=some x) : ∃ y:Ar,dz W (dh y) cs∧y.x.mV:=by
 obtain⟨n,rfl,hl,hf⟩:=iO (l:= [(4,0),(9,1),(43,2)]) (by kernel_rfl) (by simp) h
 have hc:Try.prog.cellsOf 51=6:=by kernel_rfl
 obtain⟨y0,h0⟩:=hf 0 _ rfl
 obtain⟨y1,h1⟩:=hf 1 _ rfl
 obtain⟨y2,h2⟩:=hf 2 _ rfl
 dsimp only at h0 h1 h2
 rw [ya]at h0
 rw [uz]at h1
 rw [Lv]at h2
 obtain⟨b,r0⟩:=x8 x9 h0
 obtain⟨s,r1,_⟩:=pV rM h1
 obtain⟨e,r2,hr⟩:=HM _ _ _ h2
 refine⟨⟨b,s,e⟩, ?_,hr⟩
 have:=r0.at (r1.at (r2.at (dz.end (by rw [hl,hc]))))
 rw [fG]at this
 simpa [encStr,dh]using this
theorem sC : ∀ {l:List Sm},(∀ s∈l,s.mV)→Sm.qY l
 | [],_=>trivial
 | s::l,h=>⟨h s (List.mem_cons_self ..),sC fun t m=>h t (List.mem_cons_of_mem _ m)⟩
theorem PW : ∀ (fuel:Nat) (cs:List Value) (x:DataW H×List MemPlace),DataW.trod enc Try.prog W 0 sp true fuel 47 cs=some x→∃ y:Sm,dz W (bd y) cs∧y.mV:=by
 intro fuel
 induction fuel using Nat.strongRecOn with
 | _ fuel ih=>
  intro cs x h
  obtain⟨n,rfl,hl,hf⟩:=iO (l:= [(3,0),(3,1),(22,2),(9,3),(9,4),(43,5),(4,9),(44,10),(45,11),(45,12)]) (by kernel_rfl) (by simp) h
  have hc:Try.prog.cellsOf 47=13:=by kernel_rfl
  have ca:Try.prog.cellsOf 44=1:=by kernel_rfl
  have fV:Try.prog.cellsOf 45=1:=by kernel_rfl
  have ua:Try.prog.underlying 44=some (.slice 51):=by kernel_rfl
  have us:Try.prog.underlying 45=some (.slice 47):=by kernel_rfl
  have ca6:Try.prog.cellsOf 51=6:=by kernel_rfl
  obtain⟨y0,h0⟩:=hf 0 _ rfl
  obtain⟨y1,h1⟩:=hf 1 _ rfl
  obtain⟨y2,h2⟩:=hf 2 _ rfl
  obtain⟨y3,h3⟩:=hf 3 _ rfl
  obtain⟨y4,h4⟩:=hf 4 _ rfl
  obtain⟨y5,h5⟩:=hf 5 _ rfl
  obtain⟨y6,h6⟩:=hf 6 _ rfl
  obtain⟨y7,h7⟩:=hf 7 _ rfl
  obtain⟨y8,h8⟩:=hf 8 _ rfl
  obtain⟨y9,h9⟩:=hf 9 _ rfl
  dsimp only at h0 h1 h2 h3 h4 h5 h6 h7 h8 h9
  rw [PT]at h0 h1
  rw [yc]at h2
  rw [uz]at h3 h4
  rw [Lv]at h5
  rw [ya]at h6
  rw [ca]at h7
  rw [fV]at h8 h9
  obtain⟨id,r0,_⟩:=xo HN h0
  obtain⟨kind,r1,_⟩:=xo HN h1
  obtain⟨labels,r2⟩:=sB h2
  obtain⟨name,r3,_⟩:=pV rM h3
  obtain⟨proc,r4,_⟩:=pV rM h4
  obtain⟨e,r5,hr⟩:=HM _ _ _ h5
  obtain⟨b,r6⟩:=x8 x9 h6
  obtain⟨args,r7,ha⟩:=lb (W:=W) dh (fun a=>a.x.mV) ua ca6 (by decide) (fun _=>rfl) (fun k hk cs x hx=>PV hx) h7
  obtain⟨aZ,r8,ht⟩:=lb (W:=W) bd Sm.mV us hc (by decide) zK (fun k hk cs x hx=>ih k (by omega) cs x hx) h8
  obtain⟨aQ,r9,he⟩:=lb (W:=W) bd Sm.mV us hc (by decide) zK (fun k hk cs x hx=>ih k (by omega) cs x hx) h9
  refine⟨⟨id,kind,labels,name,proc,e,b,args,aZ,aQ⟩, ?_,hr,ha,sC ht,sC he⟩
  have:=r0.at (r1.at (r2.at (r3.at (r4.at (r5.at (r6.at (r7.at (r8.at (r9.at (dz.end (by rw [hl,hc])))))))))))
  rw [fG]at this
  rw [cB]
  simpa [encStr]using this
theorem PX {fuel:Nat} {cs:List Value} {x:DataW H×List MemPlace} (h:DataW.trod enc Try.prog W 0 sp true fuel 61 cs=some x) : ∃ y:Pc,dz W (bL y) cs∧Sm.qY y.body:=by
 obtain⟨n,rfl,hl,hf⟩:=iO (l:= [(9,0),(59,1),(22,2),(45,3),(22,4)]) (by kernel_rfl) (by simp) h
 have hc:Try.prog.cellsOf 61=5:=by kernel_rfl
 have cp:Try.prog.cellsOf 59=1:=by kernel_rfl
 have fV:Try.prog.cellsOf 45=1:=by kernel_rfl
 have up:Try.prog.underlying 59=some (.slice 64):=by kernel_rfl
 have us:Try.prog.underlying 45=some (.slice 47):=by kernel_rfl
 have cp2:Try.prog.cellsOf 64=2:=by kernel_rfl
 have Uw:Try.prog.cellsOf 47=13:=by kernel_rfl
 obtain⟨y0,h0⟩:=hf 0 _ rfl
 obtain⟨y1,h1⟩:=hf 1 _ rfl
 obtain⟨y2,h2⟩:=hf 2 _ rfl
 obtain⟨y3,h3⟩:=hf 3 _ rfl
 obtain⟨y4,h4⟩:=hf 4 _ rfl
 dsimp only at h0 h1 h2 h3 h4
 rw [uz]at h0
 rw [cp]at h1
 rw [yc]at h2 h4
 rw [fV]at h3
 obtain⟨name,r0,_⟩:=pV rM h0
 obtain⟨ps,r1,_⟩:=lb (W:=W) fq (fun _=>True) up cp2 (by decide) (fun _=>rfl) (fun k hk cs x hx=>by
  obtain⟨y,hy⟩:=PU hx
  exact⟨y,hy,trivial⟩) h1
 obtain⟨vars,r2⟩:=sB h2
 obtain⟨body,r3,hb⟩:=lb (W:=W) bd Sm.mV us Uw (by decide) zK (fun k hk cs x hx=>PW k cs x hx) h3
 obtain⟨fin,r4⟩:=sB h4
 refine⟨⟨name,ps,vars,body,fin⟩, ?_,sC hb⟩
 have:=r0.at (r1.at (r2.at (r3.at (r4.at (dz.end (by rw [hl,hc]))))))
 simpa [encStr,bL]using this
theorem PY {fuel:Nat} {cs:List Value} {x:DataW H×List MemPlace} (h:DataW.trod enc Try.prog W 0 sp true fuel 25 cs=some x) : ∃ y:Pg,dz W (bN y) cs∧y.mV:=by
 obtain⟨n,rfl,hl,hf⟩:=iO (l:= [(22,0),(23,1)]) (by kernel_rfl) (by simp) h
 have hc:Try.prog.cellsOf 25=2:=by kernel_rfl
 have cp:Try.prog.cellsOf 23=1:=by kernel_rfl
 have up:Try.prog.underlying 23=some (.slice 61):=by kernel_rfl
 have cp5:Try.prog.cellsOf 61=5:=by kernel_rfl
 obtain⟨y0,h0⟩:=hf 0 _ rfl
 obtain⟨y1,h1⟩:=hf 1 _ rfl
 dsimp only at h0 h1
 rw [yc]at h0
 rw [cp]at h1
 obtain⟨globals,r0⟩:=sB h0
 obtain⟨procs,r1,hp⟩:=lb (W:=W) bL (fun f=>Sm.qY f.body) up cp5 (by decide) (fun _=>rfl) (fun k hk cs x hx=>PX hx) h1
 refine⟨⟨globals,procs⟩, ?_,hp⟩
 have:=r0.at (r1.at (dz.end (by rw [hl,hc])))
 simpa [bN]using this
end
end Go.Abs

/-! Join5 -/

namespace Go.Abs
open Go.Proofs Go.ChangeShapes Go.WideShapes Go.ChangeAt Go.RowKit
theorem zg {H:Type} {enc:TypeId×Value→H} {P:Program} {W:World} {sp:Nat→Bool} {t:TypeId} {ts:List TypeId} {ps:List MemPlace} : ∀ {l:List Value} {ds:List (DataW H)},DataW.TrodAll enc P W 0 sp true (t::ts) l ds ps→
 ∃ v l' d kC p q,l=v::l'∧ds=d::kC∧DataW.Trod enc P W 0 sp true t v d p∧DataW.TrodAll enc P W 0 sp true ts l' kC q
 | v::l,d::ds,⟨p,q,h1,h2,e⟩=>⟨v,l,d,ds,p,q,rfl,rfl,h1,h2⟩
 | [],[],h=>h.elim
 | [],_::_,h=>h.elim
 | _::_,[],h=>h.elim
theorem Kb {H:Type} {enc:TypeId×Value→H} {P:Program} {W:World} {sp:Nat→Bool} {ps:List MemPlace} : ∀ {l:List Value} {ds:List (DataW H)},DataW.TrodAll enc P W 0 sp true [] l ds ps→l = []∧ds = []
 | [],[],_=>⟨rfl,rfl⟩
 | [],_::_,h=>h.elim
 | _::_,ds,h=>by cases ds <;> exact h.elim
end Go.Abs

/-! AliasGlobal -/

namespace Go.Proofs.Ythecipohmaannaa.aliasGlobal
open Go.ChangeShapes Go.WideShapes Go.ChangeAt Go.RowKit Go.Abs
theorem own:ownKnob Try.prog.godebug=none:=by kernel_rfl
theorem kids:Kids Try.prog (· < Try.prog.types.size):=kids_rows (by kernel_rfl) (by kernel_rfl)
theorem full : ∀ {t e:TypeId},t<Try.prog.types.size→Try.prog.underlying t=some (.slice e)→0<Try.prog.cellsOf e:=fun {t e}=>slices_full_of Try.prog (by kernel_rfl) t e
theorem walk (w:World) (x0:Pg) (FB:x0.mV) (v0:Value) (PZ:RD (uy w) S0 (.agg (bN x0)) v0) (x1:Int):Calls Try.prog 6 #[v0, .int .i64 x1] w fun e w'=>e = .returned (.bool true)∧Kept w w':=by
 refine MJ (args:= [.agg (bN x0), .int .i64 x1]) ((xk x0 x1 S0).mono fun _ _ h=>h.1) rfl ?_ (fun _ _ h=>nomatch h)
 intro i d v h1 h2
 match i,h1,h2 with
 | 0,h1,h2=>simp at h1 h2;subst h1 h2;exact PZ
 | 1,h1,h2=>simp at h1 h2;subst h1 h2;exact RD.int _ _
set_option maxRecDepth 100000 in
theorem lifted (os : Os) (started : os.Started) (H : Type) (enc : TypeId × Value → H) :
   ReturnsInHanded {} Try.checked os 6 .any (Rows.aliasGlobalSpec.pre6 enc Try.prog Try.f6 Rows.aliasGlobalRow.domain false) (Rows.aliasGlobalSpec.post enc Try.prog Try.f6 false true false false) := by
 refine returnsInHanded_of_change (C := Try.checked) own started (by kernel_rfl) Try.func6
   (ChangeSpec.witness6 (enc := enc) (C := Try.checked) false ⟨#[], #[.agg #[.slice none 0 0, .slice none 0 0], .int .i64 0], []⟩ 8 (by kernel_rfl) (by kernel_rfl) (by kernel_rfl) (by kernel_rfl)) ?_
 intro W base args ds gs before Rv hW jf _
 have nD : ∀ (j : Nat) t v, Try.f6.params[j]? = some t → args[j]? = some v → Value.okWide Try.prog W .any base t v := Rv
 have PK := hW
 obtain ⟨p, q, P0, hV, rfl, hfz, hnd⟩ := hW
 have hA : DataW.TrodAll enc Try.prog W 0 (fun _ => true) true Try.f6.params.toList args.toList ds p := P0
 rw [Try.params6] at hA nD
 obtain ⟨l⟩ := args
 obtain ⟨v0, l0, d0, RG, p0, q0, e0, Sj, yB, P0⟩ := zg hA
 obtain ⟨v1, l1, d1, ds1, p1, q1, e1, e1d, Lq, hA1⟩ := zg P0
 obtain ⟨en, end_⟩ := Kb hA1
 have el : l = [v0, v1] := by rw [show l = _ from e0, e1, en]
 subst el
 have ed : ds = [d0, d1] := by rw [Sj, e1d, end_]
 clear Sj
 subst ed
 have hpg : ∀ (i : Nat) (v : Value), Try.f6.params[i]? = some 25 → (⟨[v0, v1]⟩ : Array Value)[i]? = some v → ∀ {d ps}, DataW.Trod enc Try.prog W 0 (fun _ => true) true 25 v d ps → ∃ x : Pg, RD (uy W) S0 (.agg (bN x)) v ∧ x.mV := by
   intro i v hp hv d ps ⟨fuel, hf⟩
   obtain ⟨y, h1, h2⟩ := PY hf
   obtain ⟨fs, wo⟩ := zF (P := Try.prog) (t := 25) (l := [(22, 0), (23, 1)]) (by kernel_rfl) (by simp)
   obtain ⟨cs, e, _⟩ := okWide_struct wo (nD i 25 v (by rw [← Try.params6]; exact hp) hv)
   exact ⟨y, h1.agg ⟨cs, e⟩, h2⟩
 obtain ⟨x0, PZ, FB⟩ := hpg 0 v0 (by rw [Try.params6]; rfl) rfl yB
 obtain ⟨x1, rfl, rfl, rfl, hi1⟩ := open_int Try.underlying3 (nD 1 _ _ rfl rfl) Lq
 obtain ⟨rfl, rfl⟩ := trodVars_none hV
 refine (walk W x0 FB v0 PZ x1).mono fun e W' ⟨he, hg⟩ => ?_
 subst he
 exact ⟨_, rfl, Ka kids full (by rw [Try.params6]; decide) Try.underlying4 (by kernel_rfl) rfl PK rfl hg⟩
theorem over:Rows.aliasGlobalRow.holds Try.pinned (OpenSpec.ofChange Rows.aliasGlobalSpec):=
 OpenClaim.holds_of_wide 6 Try.f6 rfl rfl rfl rfl rfl rfl rfl ⟨rfl,rfl,rfl,rfl,rfl⟩ rfl rfl rfl rfl rfl (by kernel_rfl) Try.func6 (by kernel_rfl)
  (of_decide_eq_true (by kernel_rfl)) (by unfold Func.isWrapper;first | (rw [if_pos (by decide +kernel)];kernel_rfl) | (rw [if_neg (by decide +kernel)];exact⟨rfl,rfl⟩))
  (fun os started H enc _=>lifted os started H enc)
theorem proved:Rows.AliasGlobalSaid:=
 over
#print axioms proved
end Go.Proofs.Ythecipohmaannaa.aliasGlobal
