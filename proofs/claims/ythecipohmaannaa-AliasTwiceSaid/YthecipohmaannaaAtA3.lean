/-
  What is proved here: the statement AliasTwiceSaid: whatever the arguments, the law, called, gives true, and of what was there nothing turns.
  No conditions.
-/
import Derived.Test.YthecipohmaannaaAtA2
import Derived.RowKit3
import Derived.WalkKit
import Derived.ProofKit
import Derived.OpenShut
import Derived.ShutString
import Derived.ChangeMaps5
import Derived.ChangeStays
import Derived.KernelRfl
import Derived.Test.YthecipohmaannaaRows

set_option linter.unusedSimpArgs false
set_option linter.unusedVariables false

/-! Tc6 -/

namespace Go.Abs
set_option maxRecDepth 8000
open Go.Proofs
def lS (p:Pg) (out:List aD):List aD→List aD
 | []=>out
 | v::l=>lS p (if dY p.globals v then out++ [v]else out) l
def lT (p:Pg) (out:List aD):List Sm→List aD
 | []=>out
 | v::l=>lT p (lS p out v.said) l
def lI (p:Pg) (n:aD):List Sm:=match p.find n with | some f=>Sm.dm f.body | none=> []
def mr (p:Pg) (out:List aD):List aD→List aD
 | []=>out
 | n::l=>mr p (lT p out (lI p n)) l
theorem sY (p:Pg) : ∀ (l out:List aD),out.length≤(lS p out l).length∧(lS p out l).length≤out.length+l.length
 | [],out=>⟨Nat.le_refl _,Nat.le_refl _⟩
 | v::l,out=>by
  simp only [lS]
  have h:=sY p l (if dY p.globals v then out++ [v]else out)
  have h2:out.length≤(if dY p.globals v then out++ [v]else out).length∧(if dY p.globals v then out++ [v]else out).length≤out.length+1:=by split <;> simp
  simp only [List.length_cons]
  omega
def lh:List Sm→Nat
 | []=>0
 | v::l=>v.said.length+lh l
theorem va : ∀ a b:List Sm,lh (a++b)=lh a+lh b
 | [],b=>by simp [lh]
 | v::a,b=>by simp only [List.cons_append,lh,va a b];omega
theorem Ol (v:Sm):v.said.length≤1+v.x.size+2*Ar.aO v.args:=by
 have : ∀ (l:List Ar) (out:List aD),(Ar.said out l).length≤out.length+2*Ar.aO l:=by
  intro l
  induction l with
  | nil=>intro out;simp [Ar.said]
  | cons a l ih=>
   intro out
   simp only [Ar.said,Ar.aO]
   refine Nat.le_trans (ih _) ?_
   have:=iG a.x
   have:1≤a.x.size:=by obtain⟨_,_,_,_⟩:=a.x;simp [Ex.size]
   simp only [List.length_append]
   split <;> simp <;> omega
 have h1:=this v.args (v.nC++v.x.names)
 have h2:=iG v.x
 have h4:v.nC.length≤1:=by unfold Sm.nC;split <;> simp
 simp only [List.length_append]at h1
 unfold Sm.said
 omega
mutual
theorem IY : ∀ s:Sm,lh s.pre≤2*s.size
 | ⟨id,kind,labels,name,proc,x,has,args,aY,aM⟩=>by
  simp only [Sm.pre,lh,va,Sm.size]
  have h1:=Ol ⟨id,kind,labels,name,proc,x,has,args,aY,aM⟩
  have h2:=pV aY
  have h3:=pV aM
  dsimp only at h1
  omega
theorem pV : ∀ l:List Sm,lh (Sm.dm l)≤2*Sm.aO l
 | []=>by simp [Sm.dm,lh,Sm.aO]
 | s::l=>by
  simp only [Sm.dm,va,Sm.aO]
  have:=IY s;have:=pV l;omega
end
theorem sZ (p:Pg) : ∀ (l:List Sm) (out:List aD),out.length≤(lT p out l).length∧(lT p out l).length≤out.length+lh l
 | [],out=>⟨Nat.le_refl _,Nat.le_refl _⟩
 | v::l,out=>by
  simp only [lT,lh]
  have h:=sZ p l (lS p out v.said)
  have h2:=sY p v.said out
  omega
theorem s4 {p:Pg} (h:p.jy) : ∀ (l out:List aD),out.length≤(mr p out l).length∧(mr p out l).length≤out.length+l.length*1800000
 | [],out=>⟨Nat.le_refl _,by simp [mr]⟩
 | n::l,out=>by
  simp only [mr]
  have h1:=s4 h l (lT p out (lI p n))
  have h2:=sZ p (lI p n) out
  have h3:lh (lI p n)≤1800000:=by
   unfold lI
   split
   ·rename_i f hf
    have:=pV f.body
    have h4:=Pc.bW (lG hf).1
    have h5:=h.procs.2.1
    simp only [Pc.size]at h4
    omega
   ·simp [lh]
  simp only [List.length_cons]
  omega
theorem IZ {p:Pg} (h:p.may=true):p.procs.length≤16:=by
 unfold Pg.may at h
 split at h
 ·cases h
 ·rename_i c
  simp only [Bool.or_eq_true,decide_eq_true_eq,not_or,Int.not_lt,gt_iff_lt]at c
  have:=c.1.2
  omega
def Pg.mF (p:Pg) (name:aD):List aD:=mr p [] (gv (p.work name))
def Pg.gT (p:Pg) (name:aD):List aD:=match p.pA name with | some _=>gv (p.mF name) | none=> []
theorem CD {p:Pg} (kQ:(p.scope.1==0)=true) {name:aD} {f:Pc} (hf:p.find name=some f):Good p (gv (p.work name)):=by
 have h:=u7 kQ (p.procs.length+1) 0 [name] (wS hf)
 refine⟨pU (gS _).1,fun x m=>h.2 x ?_⟩
 exact((gS _).2 x).1 m
theorem z8 {p:Pg} (h:p.jy) (name:aD) (s:St):aI Try.prog ld [.agg (bP p), .str name] s (.slice .shared 1 ((p.gT name).map encStr)) s:=by
 refine aI.pure ?_ (by simp [D.bI,D.ok,iU]) (by simp only [D.ok,Tag.ok,fc];rfl) s
 have hk:=fun s=>Lw h name s
 have de:=fun s=>A3 (p:=p) (by have:=h.procs;omega) s
 unfold Pg.gT
 unfold S0
 cases Lx:p.pA name with
 | none=>
  simp only [Lx,Option.isSome_none]at hk
  simp only [List.map_nil]
  refine aI.go pF rfl fun B Q hB hQ=> ?_
  have⟨hD,hJ,hP,hZ⟩:=b7
  repeat' (first
 | simp only [go_sem,hD,hJ,hP,hZ]
 | (with_reducible refine CU (hk _) ?_)
 | (with_reducible refine aJ hQ ?_;simp only [az,aB,Option.some.injEq,exists_eq_left',go_sem,hD,hJ,hP,hZ];repeat' (first | exact Ok.out | with_reducible refine aR ?_ ?_ | (simp;done))))
 | some f=>
 obtain⟨kQ,hf⟩:=u9 Lx
 simp only [Lx,Option.isSome_some]at hk
 dsimp only
 obtain⟨sa,qW,sr⟩:=h.procs
 have hN:=CD kQ hf
 obtain⟨N,Q1⟩ : ∃ N,gv (p.work name)=N:=⟨_,rfl⟩
 rw [Q1]at hN
 have hNl:=hN.len
 obtain⟨R,hR⟩ : ∃ R,p.mF name=R:=⟨_,rfl⟩
 rw [hR]
 unfold Pg.mF at hR
 rw [Q1]at hR
 have QY:R.length≤28800000:=by
  have:=(s4 h N []).2
  rw [hR]at this
  have h4:=IZ (oY kQ)
  have h3:N.length*1800000≤16*1800000:=Nat.mul_le_mul_right _ (by omega)
  simp only [List.length_nil]at this
  omega
 have MX:=fun s=>S2 h kQ hf s
 simp only [Q1]at MX
 obtain⟨fn,tC,Ct⟩:=pF
 refine aI.intro ⟨fn,tC,Ct⟩ (Nat.le_of_ble_eq_true rfl) fun B hB=> ?_
 generalize hQ:n6 (⟨[],[]⟩:St).av.length (⟨[],[]⟩:St).aw.length _ _ (⟨[],[]⟩:St)=Q
 have⟨hD,hJ,hP,hZ⟩:=b7
 refine Sem.o9 ?_
 repeat' (first
 | simp only [go_sem,hD,hJ,hP,hZ]
 | (with_reducible refine aJ hQ ?_;simp only [az,aB,Option.some.injEq,exists_eq_left',go_sem,hD,hJ,hP,hZ];repeat' (first | exact Ok.out | with_reducible refine aR ?_ ?_ | (simp;done))))
 refine Sem.o9 ?_
 repeat' (first
 | simp only [go_sem,hD,hJ,hP,hZ]
 | (with_reducible refine CU (hk _) ?_)
 | (with_reducible refine aJ hQ ?_;simp only [az,aB,Option.some.injEq,exists_eq_left',go_sem,hD,hJ,hP,hZ];repeat' (first | exact Ok.out | with_reducible refine aR ?_ ?_ | (simp;done))))
 refine Sem.o9 ?_
 repeat' (first
 | simp only [go_sem,hD,hJ,hP,hZ]
 | (with_reducible refine CU (de _) ?_)
 | (with_reducible refine aJ hQ ?_;simp only [az,aB,Option.some.injEq,exists_eq_left',go_sem,hD,hJ,hP,hZ];repeat' (first | exact Ok.out | with_reducible refine aR ?_ ?_ | (simp;done))))
 refine Sem.o9 ?_
 repeat' (first
 | simp only [go_sem,hD,hJ,hP,hZ]
 | (with_reducible refine aJ hQ ?_;simp only [az,aB,Option.some.injEq,exists_eq_left',go_sem,hD,hJ,hP,hZ];repeat' (first | exact Ok.out | with_reducible refine aR ?_ ?_ | (simp;done))))
 refine Sem.o9 ?_
 repeat' (first
 | simp only [go_sem,hD,hJ,hP,hZ]
 | (with_reducible refine CU (MX _) ?_)
 | (with_reducible refine aJ hQ ?_;simp only [az,aB,Option.some.injEq,exists_eq_left',go_sem,hD,hJ,hP,hZ];repeat' (first | exact Ok.out | with_reducible refine aR ?_ ?_ | (simp;done))))
 refine bq.o8 6 1 rfl ?_
 simp only [go_sem,hD,hJ,hP,hZ]
 refine dG 1 1 (bq.ind (ι:=List aD×Nat×List aD×Nat) (fun i=>N.drop i.2.1=i.1∧mr p i.2.2.1 i.1=R∧i.2.2.1.length≤R.length∧i.2.2.2=i.2.2.1.length) (fun i=>i.1.length)
  (fun i=> [(2, .ptr 0 0),(5, .dc (ja p) 0),(6, .slice (.tok 0) 1 (i.2.2.1.map encStr)),(21, .slice .shared 1 (N.map encStr)),(22, .int .i64 (N.length:Int)),(23, .int .i64 (i.2.1:Int))]) (fun i=>⟨[bP p],[some i.2.2.2]⟩) ?_ (N,0,[],0) ⟨rfl,hR,Nat.zero_le _,rfl⟩)
 rintro⟨rest,k,out,no⟩ ⟨h1,h2,h3,h4⟩ IH
 dsimp only at h1 h2 h3 h4
 subst h4
 cases rest with
 | nil=>
  have hD:=drop_nil h1
  simp only [mr]at h2
  subst h2
  have xY:(jz out).length=out.length:=List.length_mergeSort out
  repeat' (first
 | simp only [go_sem,hD,hJ,hP,hZ]
 | (with_reducible refine aJ hQ ?_;simp only [az,aB,Option.some.injEq,exists_eq_left',go_sem,hD,hJ,hP,hZ];repeat' (first | exact Ok.out | with_reducible refine aR ?_ ?_ | (simp;done))))
  refine Sem.seq (Sem.sort (k:=6) (t:=0) (l:=out) hB (by decide) (by decide) (by decide) rfl rfl (by omega) ?_)
  refine Sem.seq (Sem.compact (k:=6) (t:=0) (l:=jz out) hB (by decide) rfl (by rw [xY];rfl) (by rw [xY];omega) ?_)
  rw [u5]
  refine gO (ac:= .ret) (Q:=Q) (tm:= [(59, .slice (.tok 0) 1 ((gv out).map encStr)),(4, .slice (.tok 0) 1 ((gv out).map encStr))]) (s:=⟨[],[some (gv out).length]⟩) ?_
  repeat' (first
 | simp only [go_sem,hD,hJ,hP,hZ]
 | (with_reducible refine aJ hQ ?_;simp only [az,aB,Option.some.injEq,exists_eq_left',go_sem,hD,hJ,hP,hZ];repeat' (first | exact Ok.out | with_reducible refine aR ?_ ?_ | (simp;done))))
 | cons x rest=>
  obtain⟨hJ,g2,hD,g4⟩:=drop_cons h1
  have bE:k<4611686018427387904:=by omega
  obtain⟨g,CA⟩:=hN.2 x (List.mem_of_getElem? hJ)
  have QZ:=(lG CA).1
  have hbd:lI p x=Sm.dm g.body:=by unfold lI;rw [CA]
  simp only [mr,hbd]at h2
  obtain⟨j,hj,tj⟩:=u6 (k:=0) CA
  have tj:p.at x=((j:Nat):Int):=by unfold Pg.at;simpa using tj
  have zQ:=fun s=>Io (p:=p) (by omega) x s
  simp only [tj]at zQ
  obtain⟨it,su,IP⟩:=K6 hj (by omega)
  have QQ:it.length≤900000:=by
   have e:=congrArg List.length su
   obtain⟨a,b,e',_,_,e3,e4⟩:=(mN p).2 j g hj
   have e5:=mO p
   have e6:=congrArg List.length e3
   rw [e4]at e5
   simp only [List.length_map,List.length_append]at e e5 e6
   omega
  rw [← su]at h2
  repeat' (first
 | simp only [go_sem,hD,hJ,hP,hZ,hJ]
 | (with_reducible refine CU (zQ _) ?_)
 | (with_reducible refine CU (IP _) ?_)
 | (with_reducible refine aJ hQ ?_;simp only [az,aB,Option.some.injEq,exists_eq_left',go_sem,hD,hJ,hP,hZ];repeat' (first | exact Ok.out | with_reducible refine aR ?_ ?_ | (simp;done))))
  obtain⟨W,hW⟩ : ∃ W,lT p out (it.map Im.s)=W:=⟨_,rfl⟩
  rw [hW]at h2
  have hWR:W.length≤R.length:=by have:=(s4 h rest W).1;rw [h2]at this;exact this
  have IN:out.length≤W.length:=by have:=(sZ p (it.map Im.s) out).1;rw [hW]at this;exact this
  refine dG 1 1 (bq.ind (ι:=List Im×Nat×List aD×Nat) (fun i=>it.drop i.2.1=i.1∧lT p i.2.2.1 (i.1.map Im.s)=W∧i.2.2.1.length≤W.length∧i.2.2.2=i.2.2.1.length) (fun i=>i.1.length)
   (fun i=> [(2, .ptr 0 0),(5, .dc (ja p) 0),(6, .slice (.tok 0) 1 (i.2.2.1.map encStr)),(21, .slice .shared 1 (N.map encStr)),(22, .int .i64 (N.length:Int)),(23, .int .i64 (k:Int)),(31, .slice .shared 17 (it.map ey)),(32, .int .i64 (it.length:Int)),(33, .int .i64 (i.2.1:Int))]) (fun i=>⟨[bP p],[some i.2.2.2]⟩) ?_ (it,0,out,out.length) ⟨rfl,hW,IN,rfl⟩)
  rintro⟨q7,k2,wT,no⟩ ⟨j1,j2,j3,j4⟩ xM
  dsimp only at j1 j2 j3 j4
  subst j4
  cases q7 with
  | nil=>
   have Wr:=drop_nil j1
   simp only [List.map_nil,lT]at j2
   subst j2
   repeat' (first
 | simp only [go_sem,hD,hJ,hP,hZ,Wr]
 | (with_reducible refine aJ hQ ?_;simp only [az,aB,Option.some.injEq,exists_eq_left',go_sem,hD,hJ,hP,hZ];repeat' (first | exact Ok.out | with_reducible refine aR ?_ ?_ | (simp;done))))
   refine dt 1 1 ?_ ?_ (IH (rest,k+1,wT,wT.length) ⟨g2,h2,hWR,rfl⟩ (Nat.lt_succ_self _))
   ·(simp only [go_sem,hD,hJ,hP,hZ,aF bE];try exact br)
   ·(simp only [go_sem,hD,hJ,hP,hZ,aF bE];try exact br)
  | cons y q7=>
   obtain⟨nE,D2,uW,TV⟩:=drop_cons j1
   have sv:k2<4611686018427387904:=by omega
   have hym:y.s∈Sm.dm g.body:=by rw [← su];exact List.mem_map_of_mem (List.mem_of_getElem? nE)
   have L7:=h.said QZ _ hym
   have MR:=fun s=>uR L7 s
   have xY:=Cq _ L7
   simp only [List.map_cons,lT]at j2
   repeat' (first
 | simp only [go_sem,hD,hJ,hP,hZ,uW,nE]
 | (with_reducible refine CU (MR _) ?_)
 | (with_reducible refine aJ hQ ?_;simp only [az,aB,Option.some.injEq,exists_eq_left',go_sem,hD,hJ,hP,hZ];repeat' (first | exact Ok.out | with_reducible refine aR ?_ ?_ | (simp;done))))
   obtain⟨V,hV⟩ : ∃ V,lS p wT y.s.said=V:=⟨_,rfl⟩
   rw [hV]at j2
   have hVW:V.length≤W.length:=by have:=(sZ p (q7.map Im.s) V).1;rw [j2]at this;exact this
   have hoV:wT.length≤V.length:=by have:=(sY p y.s.said wT).1;rw [hV]at this;exact this
   refine dG 1 1 (bq.ind (ι:=List aD×Nat×List aD×Nat) (fun i=>y.s.said.drop i.2.1=i.1∧lS p i.2.2.1 i.1=V∧i.2.2.1.length≤V.length∧i.2.2.2=i.2.2.1.length) (fun i=>i.1.length)
    (fun i=> [(2, .ptr 0 0),(5, .dc (ja p) 0),(6, .slice (.tok 0) 1 (i.2.2.1.map encStr)),(21, .slice .shared 1 (N.map encStr)),(22, .int .i64 (N.length:Int)),(23, .int .i64 (k:Int)),(31, .slice .shared 17 (it.map ey)),(32, .int .i64 (it.length:Int)),(33, .int .i64 (k2:Int)),(39, .slice .shared 1 (y.s.said.map encStr)),(40, .int .i64 (y.s.said.length:Int)),(41, .int .i64 (i.2.1:Int))]) (fun i=>⟨[bP p],[some i.2.2.2]⟩) ?_ (y.s.said,0,wT,wT.length) ⟨rfl,hV,hoV,rfl⟩)
   rintro⟨x4,k3,s5,no⟩ ⟨l1,l2,l3,l4⟩ T5
   dsimp only at l1 l2 l3 l4
   subst l4
   cases x4 with
   | nil=>
    have Ws:=drop_nil l1
    simp only [lS]at l2
    subst l2
    repeat' (first
 | simp only [go_sem,hD,hJ,hP,hZ,Ws]
 | (with_reducible refine aJ hQ ?_;simp only [az,aB,Option.some.injEq,exists_eq_left',go_sem,hD,hJ,hP,hZ];repeat' (first | exact Ok.out | with_reducible refine aR ?_ ?_ | (simp;done))))
    refine dt 1 1 ?_ ?_ (xM (q7,k2+1,s5,s5.length) ⟨D2,j2,hVW,rfl⟩ (Nat.lt_succ_self _))
    ·(simp only [go_sem,hD,hJ,hP,hZ,aF sv];try exact br)
    ·(simp only [go_sem,hD,hJ,hP,hZ,aF sv];try exact br)
   | cons z x4=>
    obtain⟨Q2,T6,T7,lg4⟩:=drop_cons l1
    have vb:k3<4611686018427387904:=by omega
    have IX:=fun g s=>gL (l:=p.globals) (by omega) z g s
    simp only [lS]at l2
    rcases Bool.eq_false_or_eq_true (dY p.globals z)with c1 | c1
    ·simp only [c1,if_true]at l2
     have hP:(s5.length+1)*17≤bt:=by unfold bt;omega
     have hoo:(s5++ [z]).length≤V.length:=by have:=(sY p x4 (s5++ [z])).1;rw [l2]at this;exact this
     repeat' (first
 | simp only [go_sem,hD,hJ,hP,hZ,T7,Q2,c1]
 | (with_reducible refine CU (IX _ _) ?_)
 | (with_reducible refine aJ hQ ?_;simp only [az,aB,Option.some.injEq,exists_eq_left',go_sem,hD,hJ,hP,hZ];repeat' (first | exact Ok.out | with_reducible refine aR ?_ ?_ | (simp;done))))
     refine dt 1 1 ?_ ?_ (T5 (x4,k3+1,s5++ [z],s5.length+1) ⟨T6,l2,hoo,by simp⟩ (Nat.lt_succ_self _))
     ·(simp only [go_sem,hD,hJ,hP,hZ,aF vb,List.map_append,List.map_cons,List.map_nil,encStr];try exact br)
     ·(simp only [go_sem,hD,hJ,hP,hZ,aF vb,List.map_append,List.map_cons,List.map_nil,encStr];try exact br)
    ·simp only [c1,Bool.false_eq_true,if_false]at l2
     repeat' (first
 | simp only [go_sem,hD,hJ,hP,hZ,T7,Q2,c1]
 | (with_reducible refine CU (IX _ _) ?_)
 | (with_reducible refine aJ hQ ?_;simp only [az,aB,Option.some.injEq,exists_eq_left',go_sem,hD,hJ,hP,hZ];repeat' (first | exact Ok.out | with_reducible refine aR ?_ ?_ | (simp;done))))
     refine dt 1 1 ?_ ?_ (T5 (x4,k3+1,s5,s5.length) ⟨T6,l2,l3,rfl⟩ (Nat.lt_succ_self _))
     ·(simp only [go_sem,hD,hJ,hP,hZ,aF vb];try exact br)
     ·(simp only [go_sem,hD,hJ,hP,hZ,aF vb];try exact br)
end Go.Abs

/-! Tc7 -/

namespace Go.Abs
open Go.Proofs
end Go.Abs

/-! ScPr -/

namespace Go.Abs
set_option maxRecDepth 8000
open Go.Proofs
end Go.Abs

/-! ToP -/

namespace Go.Abs
theorem Aa {p:Pg} {x:aD} : ∀ {l out:List aD},x∈lS p out l↔x∈out∨(x∈l∧x∈p.globals)
 | [],out=>by simp [lS]
 | v::l,out=>by
  simp only [lS,Aa (l:=l),List.mem_cons]
  cases e:dY p.globals v
  ·have:v∉p.globals:=fun m=>by rw [(hO _ _).2 m]at e;cases e
   simp only [Bool.false_eq_true,if_false]
   constructor
   ·rintro(h | ⟨h,k⟩)
    ·exact .inl h
    ·exact .inr ⟨.inr h,k⟩
   ·rintro(h | ⟨rfl | h,k⟩)
    ·exact .inl h
    ·exact absurd k this
    ·exact .inr ⟨h,k⟩
  ·have:v∈p.globals:=(hO _ _).1 e
   simp only [if_true,List.mem_append,List.mem_singleton]
   constructor
   ·rintro((h | rfl) | ⟨h,k⟩)
    ·exact .inl h
    ·exact .inr ⟨.inl rfl,this⟩
    ·exact .inr ⟨.inr h,k⟩
   ·rintro(h | ⟨rfl | h,k⟩)
    ·exact .inl (.inl h)
    ·exact .inl (.inr rfl)
    ·exact .inr ⟨h,k⟩
def nH:List Sm→List aD
 | []=> []
 | v::l=>v.said++nH l
theorem Ab {p:Pg} {x:aD} : ∀ {l:List Sm} {out:List aD},x∈lT p out l↔x∈out∨(x∈nH l∧x∈p.globals)
 | [],out=>by simp [lT,nH]
 | v::l,out=>by
  simp only [lT,Ab (l:=l),Aa,nH,List.mem_append]
  constructor
  ·rintro((h | ⟨h,k⟩) | ⟨h,k⟩)
   ·exact .inl h
   ·exact .inr ⟨.inl h,k⟩
   ·exact .inr ⟨.inr h,k⟩
  ·rintro(h | ⟨h | h,k⟩)
   ·exact .inl (.inl h)
   ·exact .inl (.inr ⟨h,k⟩)
   ·exact .inr ⟨h,k⟩
def s6 (p:Pg):List aD→List aD
 | []=> []
 | n::l=>nH (lI p n)++s6 p l
theorem Ac {p:Pg} {x:aD} : ∀ {l:List aD},x∈s6 p l↔∃ n∈l,x∈nH (lI p n)
 | []=>by simp [s6]
 | n::l=>by simp [s6,Ac (l:=l)]
theorem Ad {p:Pg} {x:aD} : ∀ {l out:List aD},x∈mr p out l↔x∈out∨(x∈s6 p l∧x∈p.globals)
 | [],out=>by simp [mr,s6]
 | v::l,out=>by
  simp only [mr,Ad (l:=l),Ab,s6,List.mem_append]
  constructor
  ·rintro((h | ⟨h,k⟩) | ⟨h,k⟩)
   ·exact .inl h
   ·exact .inr ⟨.inl h,k⟩
   ·exact .inr ⟨.inr h,k⟩
  ·rintro(h | ⟨h | h,k⟩)
   ·exact .inl (.inl h)
   ·exact .inl (.inr ⟨h,k⟩)
   ·exact .inr ⟨h,k⟩
theorem Ae {p:Pg} {nm x:aD} {f:Pc} (h:p.pA nm=some f):x∈p.gT nm↔(∃ n∈p.work nm,x∈nH (lI p n))∧x∈p.globals:=by
 unfold Pg.gT
 rw [h]
 dsimp only
 rw [(gS _).2]
 unfold Pg.mF
 rw [Ad,Ac]
 simp only [(gS _).2,List.not_mem_nil,false_or]
end Go.Abs

/-! Al1 -/

namespace Go.Abs
set_option maxRecDepth 8000
open Go.Proofs
def gW (nm:aD) (T:List aD) (seen:List aD):List Ar→Bool
 | []=>true
 | a::l=>if a.ref then(if dY seen a.name || (a.name==nm || dY T a.name)then false else gW nm T (seen++ [a.name]) l)else gW nm T seen l
def Q3 (T:List aD) (seen:List aD):List Ar→Bool
 | []=>true
 | a::l=>if a.ref then(if dY seen a.name || dY T a.name then false else Q3 T (seen++ [a.name]) l)else Q3 T seen l
def Sm.Wt (v:Sm):List aD:=if v.name != []then [v.name]else []
theorem CF {v:Sm} (tu:v.args.length<1000000000) {T:List aD} (hT:T.length<4611686018427387904) (s:St) :
 aI Try.prog lN [.agg (a7 v), .slice .shared 1 (T.map encStr)] s (.bool (gW v.name T [] v.args)) s:=by
 refine aI.pure ?_ (by simp [D.bI,D.ok,kq,Tag.ok,fc]) rfl s
 generalize hR:gW v.name T [] v.args=R
 have MY:=fun x s=>sT hT x s
 unfold S0
 refine aI.go wG rfl fun B Q hB hQ=> ?_
 have⟨hD,hJ,hP,hZ⟩:=b7
 repeat' (first
 | simp only [go_sem,hD,hJ,hP,hZ]
 | (with_reducible refine aJ hQ ?_;simp only [az,aB,Option.some.injEq,exists_eq_left',go_sem,hD,hJ,hP,hZ];repeat' (first | exact Ok.out | with_reducible refine aR ?_ ?_ | (simp;done))))
 refine bq.o8 5 1 rfl ?_
 simp only [go_sem,hD,hJ,hP,hZ]
 refine dG 1 1 (bq.ind (ι:=List Ar×Nat×List aD×Nat) (fun i=>v.args.drop i.2.1=i.1∧gW v.name T i.2.2.1 i.1=R∧i.2.2.1.length≤i.2.1∧i.2.2.2=i.2.2.1.length) (fun i=>i.1.length)
  (fun i=> [(1, .slice .shared 1 (T.map encStr)),(2, .ptr 0 0),(5, .slice (.tok 0) 1 (i.2.2.1.map encStr)),(9, .slice .shared 6 (v.args.map dh)),(10, .int .i64 (v.args.length:Int)),(11, .int .i64 (i.2.1:Int))]) (fun i=>⟨[a7 v],[some i.2.2.2]⟩) ?_ (v.args,0,[],0) ⟨rfl,hR,Nat.le_refl _,rfl⟩)
 clear hR
 rintro⟨rest,k,seen,n'⟩ ⟨h1,h2,h3,h4⟩ IH
 dsimp only at h1 h2 h3 h4
 subst h4
 cases rest with
 | nil=>
  have hD:=drop_nil h1
  simp only [gW]at h2
  subst h2
  repeat' (first
 | simp only [go_sem,hD,hJ,hP,hZ]
 | (with_reducible refine aJ hQ ?_;simp only [az,aB,Option.some.injEq,exists_eq_left',go_sem,hD,hJ,hP,hZ];repeat' (first | exact Ok.out | with_reducible refine aR ?_ ?_ | (simp;done))))
 | cons a rest=>
  obtain⟨hJ,g2,hD,g4⟩:=drop_cons h1
  have bE:k<4611686018427387904:=by omega
  have hP:(seen.length+1)*17≤bt:=by unfold bt;omega
  have nS:=fun g s=>gL (l:=seen) (by omega) a.name g s
  simp only [gW]at h2
  rcases Bool.eq_false_or_eq_true a.ref with c1 | c1
  case inr=>
   simp only [c1,Bool.false_eq_true,if_false]at h2
   repeat' (first
 | simp only [go_sem,hD,hJ,hP,hZ,c1,Bool.not_false]
 | (with_reducible refine aJ hQ ?_;simp only [az,aB,Option.some.injEq,exists_eq_left',go_sem,hD,hJ,hP,hZ];repeat' (first | exact Ok.out | with_reducible refine aR ?_ ?_ | (simp;done))))
   refine dt 1 1 ?_ ?_ (IH (rest,k+1,seen,_) ⟨g2,h2,by dsimp only;omega,rfl⟩ (Nat.lt_succ_self _))
   ·(simp only [go_sem,hD,hJ,hP,hZ,aF bE];try exact br)
   ·(simp only [go_sem,hD,hJ,hP,hZ,aF bE];try exact br)
  simp only [c1,if_true]at h2
  rcases Bool.eq_false_or_eq_true (dY seen a.name)with c2 | c2
  ·simp only [c2,Bool.true_or,if_true]at h2
   subst h2
   repeat' (first
 | simp only [go_sem,hD,hJ,hP,hZ,c1,c2,Bool.not_true]
 | (with_reducible refine CU (nS _ _) ?_)
 | (with_reducible refine CU (MY _ _) ?_)
 | (with_reducible refine aJ hQ ?_;simp only [az,aB,Option.some.injEq,exists_eq_left',go_sem,hD,hJ,hP,hZ];repeat' (first | exact Ok.out | with_reducible refine aR ?_ ?_ | (simp;done))))
  rcases Bool.eq_false_or_eq_true (a.name==v.name)with c3 | c3
  ·simp only [c2,c3,Bool.false_or,Bool.true_or,if_true]at h2
   subst h2
   repeat' (first
 | simp only [go_sem,hD,hJ,hP,hZ,c1,c2,c3,Bool.not_true]
 | (with_reducible refine CU (nS _ _) ?_)
 | (with_reducible refine CU (MY _ _) ?_)
 | (with_reducible refine aJ hQ ?_;simp only [az,aB,Option.some.injEq,exists_eq_left',go_sem,hD,hJ,hP,hZ];repeat' (first | exact Ok.out | with_reducible refine aR ?_ ?_ | (simp;done))))
  rcases Bool.eq_false_or_eq_true (dY T a.name)with c4 | c4
  ·simp only [c2,c3,c4,Bool.false_or,if_true]at h2
   subst h2
   repeat' (first
 | simp only [go_sem,hD,hJ,hP,hZ,c1,c2,c3,c4,Bool.not_true]
 | (with_reducible refine CU (nS _ _) ?_)
 | (with_reducible refine CU (MY _ _) ?_)
 | (with_reducible refine aJ hQ ?_;simp only [az,aB,Option.some.injEq,exists_eq_left',go_sem,hD,hJ,hP,hZ];repeat' (first | exact Ok.out | with_reducible refine aR ?_ ?_ | (simp;done))))
  ·simp only [c2,c3,c4,Bool.false_or,Bool.false_eq_true,if_false]at h2
   repeat' (first
 | simp only [go_sem,hD,hJ,hP,hZ,c1,c2,c3,c4,Bool.not_true]
 | (with_reducible refine CU (nS _ _) ?_)
 | (with_reducible refine CU (MY _ _) ?_)
 | (with_reducible refine aJ hQ ?_;simp only [az,aB,Option.some.injEq,exists_eq_left',go_sem,hD,hJ,hP,hZ];repeat' (first | exact Ok.out | with_reducible refine aR ?_ ?_ | (simp;done))))
   refine dt 1 1 ?_ ?_ (IH (rest,k+1,seen++ [a.name],seen.length+1) ⟨g2,h2,by simp;omega,by simp⟩ (Nat.lt_succ_self _))
   ·(simp only [go_sem,hD,hJ,hP,hZ,aF bE,List.map_append,List.map_cons,List.map_nil,encStr];try exact br)
   ·(simp only [go_sem,hD,hJ,hP,hZ,aF bE,List.map_append,List.map_cons,List.map_nil,encStr];try exact br)
def kc (p:Pg):List Pc→List D
 | []=> []
 | f::l=> .str f.name:: .slice .shared 1 ((p.gT f.name).map encStr)::kc p l
theorem I0 (p:Pg) : ∀ l,D.bI 0 0 (kc p l)=true
 | []=>rfl
 | f::l=>by simp only [kc,D.bI,D.ok,Tag.ok,fc,I0 p l];rfl
theorem Om (n m:Nat) (p:Pg) (l:List Pc):D.fA n m (kc p l)=kc p l:=fH n m _ (I0 p l)
attribute [go_sem] Om
theorem CG (p:Pg) : ∀ l m,kc p (l++m)=kc p l++kc p m
 | [],m=>rfl
 | f::l,m=>by simp only [List.cons_append,kc,CG p l m]
theorem CH {p:Pg} {nm:aD} {d:D} : ∀ {l:List Pc},nm∉l.map (·.name)→rf nm d (kc p l)=some (kc p l++ [.str nm,d])
 | [],_=>rfl
 | f::l,h=>by
  simp only [List.map_cons,List.mem_cons,not_or]at h
  have:(f.name==nm)=false:=by simpa using fun e=>h.1 e.symm
  simp only [kc,rf,this,Bool.false_eq_true,if_false,CH h.2,List.cons_append]
theorem CI {p:Pg} {nm:aD} {z:D} : ∀ {l:List Pc} {f:Pc},gu nm l=some f→sC nm z (kc p l)=some (.slice .shared 1 ((p.gT nm).map encStr))
 | g::l,f,h=>by
  simp only [gu]at h
  simp only [kc,sC]
  split at h
  ·rename_i e
   rw [if_pos e,eq_of_beq e]
  ·rename_i e
   rw [if_neg e]
   exact CI h
theorem On (l:List aD) : ∀ (s:List aD),v7 s l=false→∀ a x b,l=a++x::b→x∉s++a:=by
 induction l with
 | nil=>intro s _ a x b e;cases a <;> cases e
 | cons y l ih=>
  intro s h a x b e
  simp only [v7]at h
  split at h
  ·cases h
  ·rename_i hy
   cases a with
   | nil=>cases e;simpa [← hO]using hy
   | cons z a=>
    cases e
    have:=ih (s++ [y]) h a x b rfl
    simpa using this
end Go.Abs

/-! Al2 -/

namespace Go.Abs
set_option maxRecDepth 8000
open Go.Proofs
theorem oj {p:Pg} (h:(p.arity.1==0)=true):(p.scope.1==0)=true∧∀ v∈p.pre,(v.kind==4)=true→v.gV p=true:=by
 unfold Pg.arity at h
 split at h
 ·rename_i e
  refine⟨e,fun v hv hk=> ?_⟩
  have : ∀ l:List Sm,((mj 6 (xX p l)).1==0)=true→∀ v∈l,(v.kind==4)=true→v.gV p=true:=by
   intro l
   induction l with
   | nil=>intro _ v m;cases m
   | cons a l ih=>
    intro h v m hk
    simp only [xX]at h
    split at h
    ·cases h
    ·rename_i c
     rcases List.mem_cons.1 m with rfl | m
     ·simpa [hk]using c
     ·exact ih h v m hk
  exact this _ h v hv hk
 ·cases h
theorem I1 {p:Pg} {v:Sm} (h:v.gV p=true) : ∃ f,p.find v.proc=some f:=by
 unfold Sm.gV at h
 cases e:p.find v.proc with
 | some f=>exact⟨f,rfl⟩
 | none=>rw [e]at h;simp at h
theorem CJ : ∀ {l:List It} {n:Nat} {i:It},It.dN n l=true→i∈l→i.s.one=true
 | j::l,n,i,h,m=>by
  simp only [It.dN]at h
  split at h
  ·cases h
  ·rename_i c
   simp only [Bool.or_eq_true,not_or,Bool.not_eq_true',Bool.not_eq_false]at c
   rcases List.mem_cons.1 m with rfl | m
   ·exact c.2
   ·exact CJ h m
theorem yW {p:Pg} (h:p.may=true) : ∀ v∈p.pre,v.one=true:=fun v m=>by
 rw [← (oi h).2,List.mem_map]at m
 obtain⟨i,hi,rfl⟩:=m
 exact CJ (vy h).2 hi
theorem CK {v:Sm} (h:v.one=true):Ar.dN v.args=true:=by
 unfold Sm.one at h
 repeat' (split at h)
 all_goals first | (cases h;done) | (rename_i c;simpa using c) | skip
theorem yX : ∀ {l:List Ar},Ar.dN l=true→∀ a∈l,a.may=true
 | b::l,h,a,m=>by
  simp only [Ar.dN]at h
  split at h
  ·cases h
  ·rename_i c
   rcases List.mem_cons.1 m with rfl | m
   ·simpa using c
   ·exact yX h a m
theorem Ly {v:Sm} (h:v.one=true) : ∀ a∈v.args,a.ref=true→a.name≠ []:=fun a m hr=>by
 have:=yX (CK h) a m
 unfold Ar.may at this
 rw [if_pos hr]at this
 intro e
 rw [e]at this
 simp [isName]at this
def Sm.gH (p:Pg) (v:Sm):Bool:=gW v.name (p.gT v.proc) [] v.args
def vd (p:Pg):List Sm→Option Sm
 | []=>none
 | v::l=>if v.kind==4 && !(v.gH p)then some v else vd p l
def Pg.alias (p:Pg):Int×Int:=if p.arity.1==0 then mj 8 (vd p p.pre)else(1,0)
theorem ve {p:Pg} (h:p.jy) (nm:aD):(p.gT nm).length<4611686018427387904:=by
 unfold Pg.gT
 cases hs:p.pA nm with
 | none=>dsimp only;decide
 | some f=>
  obtain⟨kQ,hf⟩:=u9 hs
  have h1:=(CD kQ hf).len
  have h2:=h.procs
  have h3:=(s4 h (gv (p.work nm)) []).2
  have h4:(gv (p.work nm)).length*1800000≤900000*1800000:=Nat.mul_le_mul_right _ (by omega)
  have h5:(gv (p.mF nm)).length≤(p.mF nm).length:=q6 _ _ (pU (gS _).1) fun x m=>((gS _).2 x).1 m
  dsimp only
  unfold Pg.mF at *
  simp only [List.length_nil]at h3
  omega
theorem s7 {v:Sm} (hv:v.kP):v.args.length<1000000000:=by have:=Ar.cH v.args;have:=hv.2.2;omega
theorem CM {p:Pg} {v:Sm} (h:p.jy) (hv:v.kP) (s:St):aI Try.prog nj [.agg (bP p), .agg (a7 v)] s (.bool (p.arity.1==0 && (v.gV p && v.gH p))) s:=by
 refine aI.pure ?_ (by simp [D.bI,D.ok,iU,kq]) rfl s
 have oI:=fun s=>wP h s
 have zU:=fun s=>Og h hv s
 have GR:=fun s=>z8 h v.proc s
 have zn:=fun s=>CF (s7 hv) (ve h v.proc) s
 have b0:(p.arity.1 != 0) = !(p.arity.1==0):=rfl
 unfold Sm.gH
 unfold S0
 rcases Bool.eq_false_or_eq_true (p.arity.1==0)with b1 | b1
 ·rw [b1]at b0
  have kQ:=(oj b1).1
  simp only [kQ,Bool.true_and]at zU
  simp only [b1,Bool.true_and]
  rcases Bool.eq_false_or_eq_true (v.gV p)with b2 | b2
  all_goals
   simp only [b2,Bool.true_and,Bool.false_and]
   refine aI.go sf rfl fun B Q hB hQ=> ?_
   have⟨hD,hJ,hP,hZ⟩:=b7
   repeat' (first
 | simp only [go_sem,hD,hJ,hP,hZ,b0,b2,Bool.not_true,Bool.not_false]
 | (with_reducible refine CU (oI _) ?_)
 | (with_reducible refine CU (zU _) ?_)
 | (with_reducible refine CU (GR _) ?_)
 | (with_reducible refine CU (zn _) ?_)
 | (with_reducible refine aJ hQ ?_;simp only [az,aB,Option.some.injEq,exists_eq_left',go_sem,hD,hJ,hP,hZ];repeat' (first | exact Ok.out | with_reducible refine aR ?_ ?_ | (simp;done))))
 ·rw [b1]at b0
  simp only [b1,Bool.false_and]
  refine aI.go sf rfl fun B Q hB hQ=> ?_
  have⟨hD,hJ,hP,hZ⟩:=b7
  repeat' (first
 | simp only [go_sem,hD,hJ,hP,hZ,b0,Bool.not_false]
 | (with_reducible refine CU (oI _) ?_)
 | (with_reducible refine aJ hQ ?_;simp only [az,aB,Option.some.injEq,exists_eq_left',go_sem,hD,hJ,hP,hZ];repeat' (first | exact Ok.out | with_reducible refine aR ?_ ?_ | (simp;done))))
theorem q8 {p:Pg} (h:p.jy) (s:St):aI Try.prog jj [.agg (bP p)] s (.agg [.int .i64 p.alias.1, .int .i64 p.alias.2]) s:=by
 refine aI.pure ?_ (by simp [D.bI,D.ok,iU]) rfl s
 obtain⟨sa,qW,sr⟩:=h.procs
 have oI:=fun s=>wP h s
 have de:=fun s=>A3 (p:=p) (by omega) s
 have hL:=(mN p).1
 have MV:=mO p
 generalize hR:p.alias=R
 simp only [Pg.alias]at hR
 unfold S0
 have b0:(p.arity.1 != 0) = !(p.arity.1==0):=rfl
 rcases Bool.eq_false_or_eq_true (p.arity.1==0)with b1 | b1
 case inr=>
  rw [b1]at b0
  simp only [b1,Bool.false_eq_true,if_false]at hR
  subst hR
  refine aI.go qR rfl fun B Q hB hQ=> ?_
  have⟨hD,hJ,hP,hZ⟩:=b7
  repeat' (first
 | simp only [go_sem,hD,hJ,hP,hZ,b0,Bool.not_false]
 | (with_reducible refine CU (oI _) ?_)
 | (with_reducible refine aJ hQ ?_;simp only [az,aB,Option.some.injEq,exists_eq_left',go_sem,hD,hJ,hP,hZ];repeat' (first | exact Ok.out | with_reducible refine aR ?_ ?_ | (simp;done))))
 rw [b1]at b0
 obtain⟨kQ,gY⟩:=oj b1
 have htw:=(wQ kQ).2.1
 simp only [b1,if_true, ← hL]at hR
 refine aI.go qR rfl fun B Q hB hQ=> ?_
 have⟨hD,hJ,hP,hZ⟩:=b7
 repeat' (first
 | simp only [go_sem,hD,hJ,hP,hZ,b0,Bool.not_true]
 | (with_reducible refine CU (oI _) ?_)
 | (with_reducible refine aJ hQ ?_;simp only [az,aB,Option.some.injEq,exists_eq_left',go_sem,hD,hJ,hP,hZ];repeat' (first | exact Ok.out | with_reducible refine aR ?_ ?_ | (simp;done))))
 refine dt 3 0 ?_ ?_ (bq.ind (ι:=List Pc×Nat×List Pc) (fun i=>p.procs.drop i.2.1=i.1∧p.procs=i.2.2++i.1) (fun i=>i.1.length)
  (fun i=> [(1, .ptr 0 0),(2, .ptr 1 0),(3, .ff 2),(15, .slice .shared 5 (p.procs.map bT)),(16, .int .i64 (p.procs.length:Int)),(17, .int .i64 (i.2.1:Int))]) (fun i=>⟨[bP p,[.int .i64 0, .int .i64 0],kc p i.2.2],[]⟩) ?_ (p.procs,0,[]) ⟨rfl,rfl⟩)
 ·(simp only [go_sem,hD,hJ,hP,hZ,kc];try exact br)
 ·(simp only [go_sem,hD,hJ,hP,hZ,kc];try exact br)
 rintro⟨rest,k,done⟩ ⟨h1,h2⟩ IH
 dsimp only at h1 h2
 cases rest with
 | cons a rest=>
  obtain⟨hJ,g2,hD,g4⟩:=drop_cons h1
  have bE:k<4611686018427387904:=by omega
  have GR:=fun s=>z8 h a.name s
  have Ix:a.name∉done.map (·.name):=by
   have:=On _ [] htw (done.map (·.name)) a.name (rest.map (·.name)) (by simp [Pg.pn,h2])
   simpa using this
  have hmp:rf a.name (.slice .shared 1 ((p.gT a.name).map encStr)) (kc p done)=some (kc p (done++ [a])):=by
   rw [CH Ix,CG];rfl
  repeat' (first
 | simp only [go_sem,hD,hJ,hP,hZ,hmp]
 | (with_reducible refine CU (GR _) ?_)
 | (with_reducible refine aJ hQ ?_;simp only [az,aB,Option.some.injEq,exists_eq_left',go_sem,hD,hJ,hP,hZ];repeat' (first | exact Ok.out | with_reducible refine aR ?_ ?_ | (simp;done))))
  refine dt 3 0 ?_ ?_ (IH (rest,k+1,done++ [a]) ⟨g2,by rw [h2];simp⟩ (Nat.lt_succ_self _))
  ·(simp only [go_sem,hD,hJ,hP,hZ,aF bE];try exact br)
  ·(simp only [go_sem,hD,hJ,hP,hZ,aF bE];try exact br)
 | nil=>
  have hD:=drop_nil h1
  rw [List.append_nil]at h2
  subst h2
  repeat' (first
 | simp only [go_sem,hD,hJ,hP,hZ,sS]
 | (with_reducible refine CU (de _) ?_)
 | (with_reducible refine aJ hQ ?_;simp only [az,aB,Option.some.injEq,exists_eq_left',go_sem,hD,hJ,hP,hZ];repeat' (first | exact Ok.out | with_reducible refine aR ?_ ?_ | (simp;done))))
  refine dG 3 0 (bq.ind (ι:=List Im×Nat) (fun i=>p.ef.L.drop i.2=i.1∧mj 8 (vd p (i.1.map Im.s))=R) (fun i=>i.1.length)
   (fun i=> [(1, .ptr 0 0),(2, .ptr 1 0),(3, .ff 2),(33, .slice .shared 17 (p.ef.L.map ey)),(34, .int .i64 (p.ef.L.length:Int)),(35, .int .i64 (i.2:Int))]) (fun i=>⟨[bP p,[.int .i64 0, .int .i64 0],kc p p.procs],[]⟩) ?_ (p.ef.L,0) ⟨rfl,hR⟩)
  clear hR
  rintro⟨rest,k⟩ ⟨h1,hR⟩ IH
  dsimp only at h1 hR
  cases rest with
  | nil=>
   have hD:=drop_nil h1
   simp only [List.map_nil,vd,mj]at hR
   subst hR
   repeat' (first
 | simp only [go_sem,hD,hJ,hP,hZ]
 | (with_reducible refine aJ hQ ?_;simp only [az,aB,Option.some.injEq,exists_eq_left',go_sem,hD,hJ,hP,hZ];repeat' (first | exact Ok.out | with_reducible refine aR ?_ ?_ | (simp;done))))
  | cons a rest=>
   obtain⟨hJ,g2,hD,g4⟩:=drop_cons h1
   have bE:k<4611686018427387904:=by omega
   have v8:a.s∈p.pre:=by rw [← hL];exact List.mem_map_of_mem (List.mem_of_getElem? hJ)
   have zn:=fun s=>CF (s7 (h.pre _ v8)) (ve h a.s.proc) s
   simp only [List.map_cons,vd,Sm.gH]at hR
   rcases Bool.eq_false_or_eq_true (a.s.kind==4)with c1 | c1
   ·obtain⟨f,hf⟩:=I1 (gY _ v8 c1)
    have T8:=fun z=>CI (p:=p) (z:=z) hf
    rcases Bool.eq_false_or_eq_true (gW a.s.name (p.gT a.s.proc) [] a.s.args)with c2 | c2
    ·simp only [c1,c2,Bool.not_true,Bool.and_false,Bool.false_eq_true,if_false]at hR
     repeat' (first
 | simp only [go_sem,hD,hJ,hP,hZ,c1,c2,T8]
 | (with_reducible refine CU (zn _) ?_)
 | (with_reducible refine aJ hQ ?_;simp only [az,aB,Option.some.injEq,exists_eq_left',go_sem,hD,hJ,hP,hZ];repeat' (first | exact Ok.out | with_reducible refine aR ?_ ?_ | (simp;done))))
     refine dt 3 0 ?_ ?_ (IH (rest,k+1) ⟨g2,hR⟩ (Nat.lt_succ_self _))
     ·(simp only [go_sem,hD,hJ,hP,hZ,aF bE];try exact br)
     ·(simp only [go_sem,hD,hJ,hP,hZ,aF bE];try exact br)
    ·simp only [c1,c2,Bool.not_false,Bool.and_true,if_true,mj]at hR
     subst hR
     repeat' (first
 | simp only [go_sem,hD,hJ,hP,hZ,c1,c2,T8]
 | (with_reducible refine CU (zn _) ?_)
 | (with_reducible refine aJ hQ ?_;simp only [az,aB,Option.some.injEq,exists_eq_left',go_sem,hD,hJ,hP,hZ];repeat' (first | exact Ok.out | with_reducible refine aR ?_ ?_ | (simp;done))))
   ·simp only [c1,Bool.false_and,Bool.false_eq_true,if_false]at hR
    repeat' (first
 | simp only [go_sem,hD,hJ,hP,hZ,c1]
 | (with_reducible refine CU (zn _) ?_)
 | (with_reducible refine aJ hQ ?_;simp only [az,aB,Option.some.injEq,exists_eq_left',go_sem,hD,hJ,hP,hZ];repeat' (first | exact Ok.out | with_reducible refine aR ?_ ?_ | (simp;done))))
    refine dt 3 0 ?_ ?_ (IH (rest,k+1) ⟨g2,hR⟩ (Nat.lt_succ_self _))
    ·(simp only [go_sem,hD,hJ,hP,hZ,aF bE];try exact br)
    ·(simp only [go_sem,hD,hJ,hP,hZ,aF bE];try exact br)
end Go.Abs

/-! MirMapS -/

namespace Go.Abs
mutual
def Sm.bH (g:Sm→Sm):Sm→Sm
 | ⟨id,kind,labels,name,proc,x,has,args,aY,aM⟩=> {g ⟨id,kind,labels,name,proc,x,has,args,aY,aM⟩with aY:=Sm.ez g aY,aM:=Sm.ez g aM}
def Sm.ez (g:Sm→Sm):List Sm→List Sm
 | []=> []
 | s::l=>s.bH g::Sm.ez g l
end
def It.bH (g:Sm→Sm) (i:It):It:= {i with s:=i.s.bH g}
def Pc.bH (g:Sm→Sm) (f:Pc):Pc:= {f with body:=Sm.ez g f.body}
def Pg.bH (g:Sm→Sm) (p:Pg):Pg:= {p with procs:=p.procs.map (Pc.bH g)}
theorem jk (g:Sm→Sm) (s:Sm):s.bH g = {g s with aY:=Sm.ez g s.aY,aM:=Sm.ez g s.aM}:=by cases s;rfl
theorem Af (g:Sm→Sm) : ∀ l,Sm.ez g l=l.map (Sm.bH g)
 | []=>rfl
 | s::l=>by simp only [Sm.ez,List.map_cons,Af g l]
def c6 (t:Sm) (v:Sm):Sm:=if v.id==t.id then t else v
end Go.Abs

/-! MapS -/

namespace Go.Abs
mutual
theorem Lz (g:Sm→Sm) : ∀ s:Sm,(s.bH g).pre=s.pre.map (Sm.bH g)
 | ⟨id,kind,labels,name,proc,x,has,args,aY,aM⟩=>by
  rw [Sm.uP,Sm.uP,List.map_cons,List.map_append, ← lJ g aY, ← lJ g aM,jk]
theorem lJ (g:Sm→Sm) : ∀ l:List Sm,Sm.dm (Sm.ez g l)=(Sm.dm l).map (Sm.bH g)
 | []=>rfl
 | s::l=>by simp only [Sm.ez,Sm.dm,List.map_append,Lz g s,lJ g l]
end
theorem DA (g:Sm→Sm) (p:Pg):(p.bH g).pre=p.pre.map (Sm.bH g):=by
 simp only [Pg.pre,Pg.bH,List.map_map,List.map_flatten]
 congr 1
 apply List.map_congr_left
 intro f _
 simp only [Function.comp,Pc.bH,lJ]
mutual
theorem Gn (g:Sm→Sm) : ∀ (s:Sm) (deep bC:Int) (aM:Bool) (out:List It),(∀ v∈s.pre,(g v).id=v.id)→fk deep bC aM (out.map (It.bH g)) (s.bH g)=(fk deep bC aM out s).map (It.bH g)
 | ⟨id,kind,labels,name,proc,x,has,args,aY,e⟩,deep,bC,aM,out,h=>by
  have e1 : ∀ o:List It,o.map (It.bH g)++ [(⟨Sm.bH g ⟨id,kind,labels,name,proc,x,has,args,aY,e⟩,deep,bC,aM⟩:It)] = (o++ [(⟨⟨id,kind,labels,name,proc,x,has,args,aY,e⟩,deep,bC,aM⟩:It)]).map (It.bH g):=by
   intro o;simp only [List.map_append,List.map_cons,List.map_nil,It.bH]
  have e2:=e1 out
  rw [Sm.uP]at h
  have h0:=h _ (List.mem_cons_self ..)
  have h1:=pW g aY
  have h2:=pW g e
  rw [jk]at e2 ⊢
  generalize hw:g ⟨id,kind,labels,name,proc,x,has,args,aY,e⟩=w at *
  obtain⟨wid,adO,WM,adP,adQ,wx,aee,adR,aef,aeg⟩:=w
  dsimp only at h0 e2 ⊢
  subst h0
  simp only [fk,e2]
  rw [h1 _ _ _ _ fun v m=>h v (List.mem_cons_of_mem _ (List.mem_append.2 (.inl m))),h2 _ _ _ _ fun v m=>h v (List.mem_cons_of_mem _ (List.mem_append.2 (.inr m)))]
  split <;> rfl
theorem pW (g:Sm→Sm) : ∀ (l:List Sm) (deep bC:Int) (aM:Bool) (out:List It),(∀ v∈Sm.dm l,(g v).id=v.id)→cB deep bC aM (out.map (It.bH g)) (Sm.ez g l)=(cB deep bC aM out l).map (It.bH g)
 | [],deep,bC,aM,out,_=>by simp only [Sm.ez,cB]
 | s::l,deep,bC,aM,out,h=>by
  simp only [Sm.dm]at h
  simp only [Sm.ez,cB,List.length_map]
  split
  ·rw [Gn g s _ _ _ _ fun v m=>h v (List.mem_append.2 (.inl m)),pW g l _ _ _ _ fun v m=>h v (List.mem_append.2 (.inr m))]
  ·rfl
end
theorem I2 (g:Sm→Sm) (f:Pc) (h : ∀ v∈Sm.dm f.body,(g v).id=v.id):(f.bH g).flat=f.flat.map (It.bH g):=by
 unfold Pc.flat
 rw [← pW g f.body _ _ _ _ h];rfl
theorem Ag (g:Sm→Sm) : ∀ (l:List Pc) (out:List It),(∀ f∈l,∀ v∈Sm.dm f.body,(g v).id=v.id)→allM (out.map (It.bH g)) (l.map (Pc.bH g))=(allM out l).map (It.bH g)
 | [],out,_=>by simp only [List.map_nil,allM]
 | f::l,out,h=>by
  simp only [List.map_cons,allM,I2 g f (h f (List.mem_cons_self ..))]
  rw [← List.map_append,List.length_map,Ag g l _ fun f m=>h f (List.mem_cons_of_mem _ m)]
  split <;> rfl
theorem LA (g:Sm→Sm) {p:Pg} (h : ∀ v∈p.pre,(g v).id=v.id):(p.bH g).all=p.all.map (It.bH g):=by
 unfold Pg.all
 have:=Ag g p.procs [] fun f hf v m=>h v (by
  simp only [Pg.pre,List.mem_flatten,List.mem_map]
  exact⟨_,⟨f,hf,rfl⟩,m⟩)
 exact this
theorem x5 (g:Sm→Sm) : ∀ l:List Pc,Pc.jx (l.map (Pc.bH g))=Pc.jx l
 | []=>rfl
 | f::l=>by simp only [List.map_cons,Pc.jx,x5 g l,Pc.bH]
theorem Ah (g:Sm→Sm) : ∀ (l:List It) (n:Nat),(∀ i∈l,(i.s.bH g).id=i.s.id∧(i.s.bH g).one=true)→It.dN n l=true→It.dN n (l.map (It.bH g))=true
 | [],n,_,_=>rfl
 | i::l,n,h,hm=>by
  simp only [List.map_cons,It.dN]at hm ⊢
  obtain⟨h1,h2⟩:=h i (List.mem_cons_self ..)
  split at hm
  ·cases hm
  ·rename_i c
   simp only [Bool.or_eq_true,not_or,Bool.not_eq_true',Bool.not_eq_false,decide_eq_true_eq]at c
   rw [if_neg,Ah g l _ (fun i m=>h i (List.mem_cons_of_mem _ m)) hm]
   simp only [It.bH,h1,h2,Bool.or_eq_true,not_or,Bool.not_eq_true',Bool.not_eq_false,decide_eq_true_eq,and_true]
   exact⟨c.1.1,by simpa using c.1.2⟩
theorem LB (g:Sm→Sm) {p:Pg} (h : ∀ v∈p.pre,(g v).id=v.id∧(v.bH g).one=true) (hm:p.may=true):(p.bH g).may=true:=by
 have jV:=(oi hm).2
 unfold Pg.may at hm ⊢
 rw [LA g fun v m=>(h v m).1,show(p.bH g).procs.length=p.procs.length from List.length_map ..,show(p.bH g).globals=p.globals from rfl,show Pc.jx (p.bH g).procs=Pc.jx p.procs from x5 g p.procs,List.length_map]
 split at hm
 ·cases hm
 rename_i c1
 split at hm
 ·cases hm
 rename_i c2
 split at hm
 ·cases hm
 rename_i c3
 rw [if_neg c1,if_neg c2,if_neg c3]
 refine Ah g _ _ (fun i m=> ?_) hm
 have v8:i.s∈p.pre:=by rw [← jV];exact List.mem_map_of_mem m
 obtain⟨h1,h2⟩:=h _ v8
 exact⟨by rw [jk];exact h1,h2⟩
theorem oZ (g:Sm→Sm) (nm:aD) (p:Pg):(p.bH g).find nm=(p.find nm).map (Pc.bH g):=by
 have : ∀ l:List Pc,gu nm (l.map (Pc.bH g))=(gu nm l).map (Pc.bH g):=by
  intro l
  induction l with
  | nil=>rfl
  | cons f l ih=>
   simp only [List.map_cons,gu,ih]
   show(if f.name==nm then _ else _)=_
   split <;> rfl
 exact this p.procs
theorem CN {p:Pg} {f:Pc} {procs:List aD} : ∀ {l:List Sm},(∀ v∈l,v.known p f procs=true)→rJ p f procs l=none
 | [],_=>rfl
 | v::l,h=>by
  simp only [rJ,h v (List.mem_cons_self ..),if_true]
  exact CN fun w m=>h w (List.mem_cons_of_mem _ m)
theorem x6 {p:Pg} {procs:List aD} : ∀ {l:List Pc},(∀ f∈l,er (p.globals++f.own)=false∧∀ v∈Sm.dm f.body,v.known p f procs=true)→nD p procs l=(0,0)
 | [],_=>rfl
 | f::l,h=>by
  obtain⟨h1,h2⟩:=h f (List.mem_cons_self ..)
  simp only [nD,h1,Bool.false_eq_true,if_false,CN h2]
  exact x6 fun w m=>h w (List.mem_cons_of_mem _ m)
theorem I3 {p:Pg} (hm:p.may=true) (h1:er p.globals=false) (h2:er p.pn=false) (h3:p.oX=false) (h4 : ∀ f∈p.procs,er (p.globals++f.own)=false∧∀ v∈Sm.dm f.body,v.known p f p.pn=true):p.scope=(0,0):=by
 unfold Pg.scope
 rw [if_pos hm,h1,h2,h3]
 exact x6 h4
theorem D6 (g:Sm→Sm) (p:Pg):(p.bH g).pn=p.pn:=by simp only [Pg.pn,Pg.bH,List.map_map];rfl
theorem Gp (g:Sm→Sm) {p:Pg} (hm:(p.bH g).may=true) (kQ:(p.scope.1==0)=true) (h : ∀ f∈p.procs,∀ v∈Sm.dm f.body,v.known p f p.pn=true→(v.bH g).known p f p.pn=true):(p.bH g).scope=(0,0):=by
 obtain⟨h1,h2,h3,h4⟩:=wQ kQ
 refine I3 hm h1 (by rw [D6];exact h2) ?_ fun f hf=> ?_
 ·unfold Pg.oX at h3 ⊢
  rw [oZ]
  cases e:p.find mq with
  | none=>rw [e]at h3;cases h3
  | some m=>rw [e]at h3;exact h3
 ·simp only [Pg.bH,List.mem_map]at hf
  obtain⟨f0,T9,rfl⟩:=hf
  obtain⟨k1,k2⟩:=h4 f0 T9
  refine⟨k1,fun v m=> ?_⟩
  simp only [Pc.bH,lJ,List.mem_map]at m
  obtain⟨w,hw,rfl⟩:=m
  rw [D6]
  exact h f0 T9 w hw (k2 w hw)
theorem D7 {p:Pg} : ∀ {l:List Sm},(∀ v∈l,(v.kind==4)=true→v.gV p=true)→xX p l=none
 | [],_=>rfl
 | v::l,h=>by
  simp only [xX]
  rw [if_neg,D7 fun w m=>h w (List.mem_cons_of_mem _ m)]
  intro c
  simp only [Bool.and_eq_true,Bool.not_eq_true']at c
  rw [h v (List.mem_cons_self ..) c.1]at c
  exact absurd c.2 (by simp)
theorem I4 {p:Pg} (hs:(p.scope.1==0)=true) (h : ∀ v∈p.pre,(v.kind==4)=true→v.gV p=true):p.arity=(0,0):=by
 unfold Pg.arity
 rw [if_pos hs,D7 h]
 rfl
mutual
theorem I5 (g:Sm→Sm) : ∀ s:Sm,(∀ v∈s.pre,(g v).labels.length+(g v).x.size+Ar.aO (g v).args=v.labels.length+v.x.size+Ar.aO v.args)→(s.bH g).size=s.size
 | ⟨id,kind,labels,name,proc,x,has,args,aY,aM⟩,h=>by
  rw [Sm.uP]at h
  have h0:=h _ (List.mem_cons_self ..)
  have h1:=pX g aY fun v m=>h v (List.mem_cons_of_mem _ (List.mem_append.2 (.inl m)))
  have h2:=pX g aM fun v m=>h v (List.mem_cons_of_mem _ (List.mem_append.2 (.inr m)))
  rw [jk]
  simp only [Sm.size,h1,h2]at h0 ⊢
  omega
theorem pX (g:Sm→Sm) : ∀ l:List Sm,(∀ v∈Sm.dm l,(g v).labels.length+(g v).x.size+Ar.aO (g v).args=v.labels.length+v.x.size+Ar.aO v.args)→Sm.aO (Sm.ez g l)=Sm.aO l
 | [],_=>rfl
 | s::l,h=>by
  simp only [Sm.dm]at h
  simp only [Sm.ez,Sm.aO,I5 g s fun v m=>h v (List.mem_append.2 (.inl m)),pX g l fun v m=>h v (List.mem_append.2 (.inr m))]
end
theorem Gq (g:Sm→Sm) {p:Pg} (h : ∀ v∈p.pre,(g v).labels.length+(g v).x.size+Ar.aO (g v).args=v.labels.length+v.x.size+Ar.aO v.args):(p.bH g).size=p.size:=by
 have : ∀ l:List Pc,(∀ f∈l,∀ v∈Sm.dm f.body,(g v).labels.length+(g v).x.size+Ar.aO (g v).args=v.labels.length+v.x.size+Ar.aO v.args)→Pc.aO (l.map (Pc.bH g))=Pc.aO l:=by
  intro l
  induction l with
  | nil=>intro _;rfl
  | cons f l ih=>
   intro h
   simp only [List.map_cons,Pc.aO,ih fun f m=>h f (List.mem_cons_of_mem _ m),Pc.size,Pc.bH,pX g f.body (h f (List.mem_cons_self ..))]
 unfold Pg.size
 show 1+p.globals.length+Pc.aO (p.procs.map (Pc.bH g))=_
 rw [this p.procs fun f hf v m=>h v (by
  simp only [Pg.pre,List.mem_flatten,List.mem_map]
  exact⟨_,⟨f,hf,rfl⟩,m⟩)]
end Go.Abs

/-! Al3 -/

namespace Go.Abs
open Go.Proofs
def Sm.Q4 (p:Pg) (v:Sm):Bool:=v.gV p && Q3 (p.gT v.proc) v.Wt v.args
def apF (p:Pg):List Sm→Option Sm
 | []=>none
 | v::l=>if v.kind==4 && !(v.Q4 p)then some v else apF p l
end Go.Abs

/-! Prs3 -/

namespace Go.Abs
open Go.Proofs
end Go.Abs

/-! Prs4 -/

namespace Go.Abs
open Go.Proofs
end Go.Abs

/-! Prs5 -/

namespace Go.Abs
open Go.Proofs
end Go.Abs

/-! Prs6 -/

namespace Go.Abs
open Go.Proofs
end Go.Abs

/-! Lex3 -/

namespace Go.Abs
open Go.Proofs
end Go.Abs

/-! MirParse -/

namespace Go.Abs
def Ua (l:List me):Rd:=⟨l,0,0,0,0⟩
def adb (m:Nat) (text:aD):Option (Pg×Int×Int):=
 if(sm text).2.1 != 0 then some (DQ,(sm text).2)
 else(Rd.program m (Ua (sm text).1)).bind fun p=>if p.2.code != 0 then some (DQ,p.2.code,p.2.B2)else(p.1.NZ).bind fun q=>some (q,0,0)
def adS (m:Nat) (text:aD):Option (Ex×Int×Int):=
 if(sm text).2.1 != 0 then some (mM,(sm text).2)
 else(Rd.whole m (Ua (sm text).1)).bind fun x=>x.2.H7.bind fun b=>
  if b then(x.2.bad 3).bind fun r=>if !r.good then some (mM,r.code,r.B2)else some (x.1,0,0)
  else if !x.2.good then some (mM,x.2.code,x.2.B2)else some (x.1,0,0)
end Go.Abs

/-! Prs7 -/

namespace Go.Abs
open Go.Proofs
end Go.Abs

/-! Room1 -/

namespace Go.Abs
set_option maxRecDepth 8000
open Go.Proofs
def pB (n k:Int):Int:=if Int.tmod n k<0 then Int.tmod n k+k else Int.tmod n k
theorem D8 (n:Int) {k:Int} (hk:1≤k):0≤pB n k∧pB n k<k:=by
 unfold pB
 have h1:=Int.tmod_lt_of_pos n (by omega:0<k)
 have h2:=Int.lt_tmod_of_pos n (by omega:0<k)
 split <;> omega
theorem MZ (n:Int) {k:Int} (hk:1≤k) (bE:k<1000000) (s:St):aI Try.prog pP [.int .i64 n, .int .i64 k] s (.int .i64 (pB n k)) s:=by
 refine aI.pure ?_ rfl rfl s
 have h1:=Int.tmod_lt_of_pos n (by omega:0<k)
 have h2:=Int.lt_tmod_of_pos n (by omega:0<k)
 have c1:decide (k<1)=false:=by simp;omega
 have w1:IntKind.wrap .i64 (Int.tmod n k)=Int.tmod n k:=dk (by omega) (by omega)
 have w2:IntKind.wrap .i64 (Int.tmod n k+k)=Int.tmod n k+k:=dk (by omega) (by omega)
 have k0:(k=0)=False:=by simp;omega
 unfold S0
 by_cases hm:Int.tmod n k<0
 ·have c2:decide (Int.tmod n k<0)=true:=by simp;omega
  rw [show pB n k=Int.tmod n k+k from if_pos hm]
  refine aI.go uJ rfl fun B Q hB hQ=> ?_
  have⟨hD,hJ,hP,hZ⟩:=b7
  repeat' (first
 | simp only [go_sem,hD,hJ,hP,hZ,c1,c2,w1,w2,k0]
 | (with_reducible first | refine cm fun hc=> ?_ | refine cq fun hc=> ?_ | refine cr (fun hc=> ?_) fun hc=> ?_) <;> (try simp only [hc,bs, ↓reduceIte]at h) <;> try simp only [hc]
 | (with_reducible refine aJ hQ ?_;(try cases h);simp only [az,aB,cY,cZ,go_sem,hD,hJ,hP,hZ,c1,c2,w1,w2,k0];try exact iD)
 | (cases h;done))
 ·have c2:decide (Int.tmod n k<0)=false:=by simp;omega
  rw [show pB n k=Int.tmod n k from if_neg hm]
  refine aI.go uJ rfl fun B Q hB hQ=> ?_
  have⟨hD,hJ,hP,hZ⟩:=b7
  repeat' (first
 | simp only [go_sem,hD,hJ,hP,hZ,c1,c2,w1,w2,k0]
 | (with_reducible first | refine cm fun hc=> ?_ | refine cq fun hc=> ?_ | refine cr (fun hc=> ?_) fun hc=> ?_) <;> (try simp only [hc,bs, ↓reduceIte]at h) <;> try simp only [hc]
 | (with_reducible refine aJ hQ ?_;(try cases h);simp only [az,aB,cY,cZ,go_sem,hD,hJ,hP,hZ,c1,c2,w1,w2,k0];try exact iD)
 | (cases h;done))
def S3 (t:aD):Nat→aD
 | 0=> []
 | n+1=>S3 t n++t
def two (i:Nat):aD:= [UInt8.ofNat (48+i / 10),UInt8.ofNat (48+i % 10)]
def Q5 (ahead:aD):Nat→aD
 | 0=> []
 | n+1=>(if n=0 then Q5 ahead n else Q5 ahead n++ [44])++(ahead++ [97]++two n)
def Q6:Nat→aD
 | 0=> []
 | n+1=>Q6 n++([112,114,111,99,32,112]++two n++ [40,41,123,125])
end Go.Abs

/-! Al4 -/

namespace Go.Abs
set_option maxRecDepth 8000
open Go.Proofs
def jh (k:Int):List It→List Int
 | []=> []
 | i::l=>if k==0 || i.s.kind==k then i.s.id::jh k l else jh k l
theorem wU (k:Int) : ∀ l,(jh k l).length≤l.length
 | []=>Nat.le_refl _
 | i::l=>by
  have:=wU k l
  simp only [jh]
  split <;> simp <;> omega
theorem S4 {p:Pg} (hs:Pc.aO p.procs<4611686018427387000) (MV:p.all.length≤1000) (kd:Int) (s:St):aI Try.prog sN [.agg (bP p), .int .i64 kd] s (.slice .shared 1 ((jh kd p.all).map fB)) s:=by
 refine aI.pure ?_ (by simp [D.bI,D.ok,iU]) (by simp only [D.ok,Tag.ok,ql];rfl) s
 have tu:=fun s=>SR hs s
 obtain⟨R,hR⟩ : ∃ R,jh kd p.all=R:=⟨_,rfl⟩
 rw [hR]
 have QY:R.length≤1000:=by rw [← hR];exact Nat.le_trans (wU kd p.all) MV
 unfold S0
 refine aI.go B5 rfl fun B Q hB hQ=> ?_
 have⟨hD,hJ,hP,hZ⟩:=b7
 repeat' (first
 | simp only [go_sem,hD,hJ,hP,hZ]
 | (with_reducible refine CU (tu _) ?_)
 | (with_reducible refine aJ hQ ?_;simp only [az,aB,Option.some.injEq,exists_eq_left',go_sem,hD,hJ,hP,hZ];repeat' (first | exact Ok.out | with_reducible refine aR ?_ ?_ | (simp;done))))
 refine bq.o8 5 1 rfl ?_
 simp only [go_sem,hD,hJ,hP,hZ]
 refine dG 1 1 (bq.ind (ι:=List It×Nat×List Int×Nat) (fun i=>p.all.drop i.2.1=i.1∧i.2.2.1++jh kd i.1=R∧i.2.2.2=i.2.2.1.length) (fun i=>i.1.length)
  (fun i=> [(1, .int .i64 kd),(2, .ptr 0 0),(5, .slice (.tok 0) 1 (i.2.2.1.map fB)),(9, .slice .shared 16 (p.all.map eh)),(10, .int .i64 (p.all.length:Int)),(11, .int .i64 (i.2.1:Int))]) (fun i=>⟨[bP p],[some i.2.2.2]⟩) ?_ (p.all,0,[],0) ⟨rfl,hR,rfl⟩)
 clear hR
 rintro⟨rest,k,out,n'⟩ ⟨h1,h2,h3⟩ IH
 dsimp only at h1 h2 h3
 subst h3
 have lV:out.length≤1000:=by have:=congrArg List.length h2;rw [List.length_append]at this;omega
 cases rest with
 | nil=>
  have hD:=drop_nil h1
  simp only [jh,List.append_nil]at h2
  subst h2
  repeat' (first
 | simp only [go_sem,hD,hJ,hP,hZ]
 | (with_reducible refine aJ hQ ?_;simp only [az,aB,Option.some.injEq,exists_eq_left',go_sem,hD,hJ,hP,hZ];repeat' (first | exact Ok.out | with_reducible refine aR ?_ ?_ | (simp;done))))
 | cons a rest=>
  obtain⟨hJ,g2,hD,g4⟩:=drop_cons h1
  have bE:k<4611686018427387904:=by omega
  have hP:(out.length+1)*9≤bt:=by unfold bt;omega
  simp only [jh]at h2
  rcases Bool.eq_false_or_eq_true (kd==0)with c1 | c1
  ·simp only [c1,Bool.true_or,if_true]at h2
   repeat' (first
 | simp only [go_sem,hD,hJ,hP,hZ,c1]
 | (with_reducible refine aJ hQ ?_;simp only [az,aB,Option.some.injEq,exists_eq_left',go_sem,hD,hJ,hP,hZ];repeat' (first | exact Ok.out | with_reducible refine aR ?_ ?_ | (simp;done))))
   refine dt 1 1 ?_ ?_ (IH (rest,k+1,out++ [a.s.id],out.length+1) ⟨g2,by rw [← h2];simp,by simp⟩ (Nat.lt_succ_self _))
   ·(simp only [go_sem,hD,hJ,hP,hZ,aF bE,List.map_append,List.map_cons,List.map_nil,fB];try exact br)
   ·(simp only [go_sem,hD,hJ,hP,hZ,aF bE,List.map_append,List.map_cons,List.map_nil,fB];try exact br)
  rcases Bool.eq_false_or_eq_true (a.s.kind==kd)with c2 | c2
  ·simp only [c1,c2,Bool.or_true,if_true]at h2
   repeat' (first
 | simp only [go_sem,hD,hJ,hP,hZ,c1,c2]
 | (with_reducible refine aJ hQ ?_;simp only [az,aB,Option.some.injEq,exists_eq_left',go_sem,hD,hJ,hP,hZ];repeat' (first | exact Ok.out | with_reducible refine aR ?_ ?_ | (simp;done))))
   refine dt 1 1 ?_ ?_ (IH (rest,k+1,out++ [a.s.id],out.length+1) ⟨g2,by rw [← h2];simp,by simp⟩ (Nat.lt_succ_self _))
   ·(simp only [go_sem,hD,hJ,hP,hZ,aF bE,List.map_append,List.map_cons,List.map_nil,fB];try exact br)
   ·(simp only [go_sem,hD,hJ,hP,hZ,aF bE,List.map_append,List.map_cons,List.map_nil,fB];try exact br)
  ·simp only [c1,c2,Bool.or_false,Bool.false_eq_true,if_false]at h2
   repeat' (first
 | simp only [go_sem,hD,hJ,hP,hZ,c1,c2]
 | (with_reducible refine aJ hQ ?_;simp only [az,aB,Option.some.injEq,exists_eq_left',go_sem,hD,hJ,hP,hZ];repeat' (first | exact Ok.out | with_reducible refine aR ?_ ?_ | (simp;done))))
   refine dt 1 1 ?_ ?_ (IH (rest,k+1,out,_) ⟨g2,h2,rfl⟩ (Nat.lt_succ_self _))
   ·(simp only [go_sem,hD,hJ,hP,hZ,aF bE];try exact br)
   ·(simp only [go_sem,hD,hJ,hP,hZ,aF bE];try exact br)
def jA (l:List Int) (n:Int):Int:=match l[(pB n l.length).toNat]? with | some x=>x | none=>0
theorem Q7 {l:List Int} (hl:l.length<1000000) (n:Int) (s:St):aI Try.prog ry [.slice .shared 1 (l.map fB), .int .i64 n] s (.int .i64 (jA l n)) s:=by
 refine aI.pure ?_ (by simp [D.bI,D.ok,Tag.ok,ql]) rfl s
 unfold S0
 by_cases hz:l.length=0
 ·have hz':l = []:=List.eq_nil_of_length_eq_zero hz
  have c1:((l.length:Int)==0)=true:=by rw [hz];rfl
  have e:jA l n=0:=by unfold jA;rw [hz'];rfl
  rw [e]
  refine aI.go tv rfl fun B Q hB hQ=> ?_
  have⟨hD,hJ,hP,hZ⟩:=b7
  repeat' (first
 | simp only [go_sem,hD,hJ,hP,hZ,c1]
 | (with_reducible refine aJ hQ ?_;simp only [az,aB,Option.some.injEq,exists_eq_left',go_sem,hD,hJ,hP,hZ];repeat' (first | exact Ok.out | with_reducible refine aR ?_ ?_ | (simp;done))))
 ·have c1:((l.length:Int)==0)=false:=by simp only [beq_eq_false_iff_ne,ne_eq];omega
  have hk:=D8 n (k:=(l.length:Int)) (by omega)
  have hm:=fun s=>MZ n (k:=(l.length:Int)) (by omega) (by omega) s
  obtain⟨j,hj⟩ : ∃ j:Nat,pB n l.length=(j:Int):=⟨(pB n l.length).toNat,(Int.toNat_of_nonneg hk.1).symm⟩
  have DN:j<l.length:=by have h2:=hk.2;rw [hj]at h2;omega
  obtain⟨f,hf⟩ : ∃ f,l[j]? = some f:=⟨_,List.getElem?_eq_getElem DN⟩
  have e:jA l n=f:=by unfold jA;rw [hj,Int.toNat_natCast,hf]
  rw [hj]at hm
  rw [e]
  have oK:decide ((j:Int)<(l.length:Int))=true:=by simp;omega
  refine aI.go tv rfl fun B Q hB hQ=> ?_
  have⟨hD,hJ,hP,hZ⟩:=b7
  repeat' (first
 | simp only [go_sem,hD,hJ,hP,hZ,c1,hf,oK,fB]
 | (with_reducible refine CU (hm _) ?_)
 | (with_reducible refine aJ hQ ?_;simp only [az,aB,Option.some.injEq,exists_eq_left',go_sem,hD,hJ,hP,hZ];repeat' (first | exact Ok.out | with_reducible refine aR ?_ ?_ | (simp;done))))
def pY (id:Int):List It→Option It
 | []=>none
 | i::l=>if i.s.id==id then some i else pY id l
def lj (id:Int):List Pc→Option (It×aD)
 | []=>none
 | f::l=>match pY id f.flat with | some i=>some (i,f.name) | none=>lj id l
def Q8:It:=⟨BX,0,0,false⟩
def kA (r:Option (It×aD)):D:=match r with
 | some (i,nm)=> .tuple [.agg (eh i), .str nm, .bool true]
 | none=> .tuple [.agg (eh Q8), .str [], .bool false]
theorem Oo (r:Option (It×aD)):D.ok 0 0 (kA r)=true:=by cases r <;> simp [kA,D.ok,D.bI,Ge]
theorem x7:eh Q8 = [.int .i64 0, .int .i64 0, .slice .shared 1 [], .str [], .str [], .int .i64 0, .int .i64 0, .str [], .slice .shared 4 [], .bool false, .slice .shared 6 [], .slice .shared 13 [], .slice .shared 13 [], .int .i64 0, .int .i64 0, .bool false]:=nd rfl
theorem Q9 {p:Pg} (hs:Pc.aO p.procs<4611686018427387000) (hp:p.procs.length<1000000) (id:Int) (s:St):aI Try.prog rD [.agg (bP p), .int .i64 id] s (kA (lj id p.procs)) s:=by
 refine aI.pure ?_ (by simp [D.bI,D.ok,iU]) (Oo _) s
 obtain⟨R,hR⟩ : ∃ R,lj id p.procs=R:=⟨_,rfl⟩
 rw [hR]
 unfold S0
 refine aI.go AA rfl fun B Q hB hQ=> ?_
 have⟨hD,hJ,hP,hZ⟩:=b7
 repeat' (first
 | simp only [go_sem,hD,hJ,hP,hZ]
 | (with_reducible first | refine cm fun hc=> ?_ | refine cq fun hc=> ?_ | refine cr (fun hc=> ?_) fun hc=> ?_) <;> (try simp only [hc,bs, ↓reduceIte]at h) <;> try simp only [hc]
 | (with_reducible refine aJ hQ ?_;simp only [az,aB,cY,cZ,go_sem,hD,hJ,hP,hZ];repeat' (first | exact Ok.out | with_reducible refine aR ?_ ?_ | (simp;done))))
 refine dG 2 0 (bq.ind (ι:=List Pc×Nat) (fun i=>p.procs.drop i.2=i.1∧lj id i.1=R) (fun i=>i.1.length)
  (fun i=> [(1, .int .i64 id),(2, .ptr 0 0),(4, .ptr 1 0),(5, .str []),(6, .bool false),(12, .slice .shared 5 (p.procs.map bT)),(13, .int .i64 (p.procs.length:Int)),(14, .int .i64 (i.2:Int))]) (fun i=>⟨[bP p,[.int .i64 0, .int .i64 0, .slice .full 0 [], .str [], .str [], .int .i64 0, .int .i64 0, .str [], .slice .full 0 [], .bool false, .slice .full 0 [], .slice .full 0 [], .slice .full 0 [], .int .i64 0, .int .i64 0, .bool false]],[]⟩) ?_ (p.procs,0) ⟨rfl,hR⟩)
 clear hR
 rintro⟨rest,k⟩ ⟨h1,h2⟩ IH
 dsimp only at h1 h2
 cases rest with
 | nil=>
  have hD:=drop_nil h1
  simp only [lj]at h2
  subst h2
  repeat' (first
 | simp only [go_sem,hD,hJ,hP,hZ,kA,x7]
 | (with_reducible first | refine cm fun hc=> ?_ | refine cq fun hc=> ?_ | refine cr (fun hc=> ?_) fun hc=> ?_) <;> (try simp only [hc,bs, ↓reduceIte]at h) <;> try simp only [hc]
 | (with_reducible refine aJ hQ ?_;simp only [az,aB,cY,cZ,go_sem,hD,hJ,hP,hZ,kA,x7];repeat' (first | exact Ok.out | with_reducible refine aR ?_ ?_ | (simp;done))))
 | cons f rest=>
  obtain⟨hJ,g2,hD,g4⟩:=drop_cons h1
  have bE:k<4611686018427387904:=by omega
  have jV:=fun s=>Iv (f:=f) (by have:=Pc.bW (List.mem_of_getElem? hJ);unfold Pc.size at this;omega) s
  have aeh:=Pc.Ci f
  simp only [lj]at h2
  repeat' (first
 | simp only [go_sem,hD,hJ,hP,hZ]
 | (with_reducible refine CU (jV _) ?_)
 | (with_reducible refine aJ hQ ?_;simp only [az,aB,cY,cZ,go_sem,hD,hJ,hP,hZ];repeat' (first | exact Ok.out | with_reducible refine aR ?_ ?_ | (simp;done))))
  refine dG 3 0 (bq.ind (ι:=List It×Nat) (fun i=>f.flat.drop i.2=i.1∧(match pY id i.1 with | some i=>some (i,f.name) | none=>lj id rest)=R) (fun i=>i.1.length)
   (fun i=> [(1, .int .i64 id),(2, .ptr 0 0),(4, .ptr 1 0),(5, .str []),(6, .bool false),(8, .ptr 2 0),(12, .slice .shared 5 (p.procs.map bT)),(13, .int .i64 (p.procs.length:Int)),(14, .int .i64 (k:Int)),
    (19, .slice .shared 16 (f.flat.map eh)),(20, .int .i64 (f.flat.length:Int)),(21, .int .i64 (i.2:Int))]) (fun i=>⟨[bP p,[.int .i64 0, .int .i64 0, .slice .full 0 [], .str [], .str [], .int .i64 0, .int .i64 0, .str [], .slice .full 0 [], .bool false, .slice .full 0 [], .slice .full 0 [], .slice .full 0 [], .int .i64 0, .int .i64 0, .bool false],bT f],[]⟩) ?_ (f.flat,0) ⟨rfl,h2⟩)
  clear h2
  rintro⟨q7,k'⟩ ⟨j1,j2⟩ xM
  dsimp only at j1 j2
  cases q7 with
  | nil=>
   have Ra:=drop_nil j1
   simp only [pY]at j2
   repeat' (first
 | simp only [go_sem,hD,hJ,hP,hZ,Ra]
 | (with_reducible first | refine cm fun hc=> ?_ | refine cq fun hc=> ?_ | refine cr (fun hc=> ?_) fun hc=> ?_) <;> (try simp only [hc,bs, ↓reduceIte]at h) <;> try simp only [hc]
 | (with_reducible refine aJ hQ ?_;simp only [az,aB,cY,cZ,go_sem,hD,hJ,hP,hZ,Ra];repeat' (first | exact Ok.out | with_reducible refine aR ?_ ?_ | (simp;done))))
   refine dt 2 0 ?_ ?_ (IH (rest,k+1) ⟨g2,j2⟩ (Nat.lt_succ_self _))
   ·(simp only [go_sem,hD,hJ,hP,hZ,aF bE];try exact br)
   ·(simp only [go_sem,hD,hJ,hP,hZ,aF bE];try exact br)
  | cons a q7=>
   obtain⟨nE,j3,uW,j4⟩:=drop_cons j1
   have sv:k'<4611686018427387904:=by omega
   simp only [pY]at j2
   rcases Bool.eq_false_or_eq_true (a.s.id==id)with c1 | c1
   ·simp only [c1,if_true]at j2
    subst j2
    repeat' (first
 | simp only [go_sem,hD,hJ,hP,hZ,nE,uW,c1,kA,x7]
 | (with_reducible first | refine cm fun hc=> ?_ | refine cq fun hc=> ?_ | refine cr (fun hc=> ?_) fun hc=> ?_) <;> (try simp only [hc,bs, ↓reduceIte]at h) <;> try simp only [hc]
 | (with_reducible refine aJ hQ ?_;simp only [az,aB,cY,cZ,go_sem,hD,hJ,hP,hZ,nE,uW,c1,kA,x7];repeat' (first | exact Ok.out | with_reducible refine aR ?_ ?_ | (simp;done))))
   ·simp only [c1,Bool.false_eq_true,if_false]at j2
    repeat' (first
 | simp only [go_sem,hD,hJ,hP,hZ,nE,uW,c1]
 | (with_reducible refine aJ hQ ?_;simp only [az,aB,cY,cZ,go_sem,hD,hJ,hP,hZ];repeat' (first | exact Ok.out | with_reducible refine aR ?_ ?_ | (simp;done))))
    refine dt 3 0 ?_ ?_ (xM (q7,k'+1) ⟨j3,j2⟩ (Nat.lt_succ_self _))
    ·(simp only [go_sem,hD,hJ,hP,hZ,aF sv];try exact br)
    ·(simp only [go_sem,hD,hJ,hP,hZ,aF sv];try exact br)
def Pg.pZ (p:Pg) (id:Int):Sm:=match lj id p.procs with | some (i,_)=>i.s | none=>BX
theorem Rb {p:Pg} (hs:Pc.aO p.procs<4611686018427387000) (hp:p.procs.length<1000000) (id:Int) (s:St):aI Try.prog rz [.agg (bP p), .int .i64 id] s (.agg (a7 (p.pZ id))) s:=by
 refine aI.pure ?_ (by simp [D.bI,D.ok,iU]) (by simp [D.ok,kq]) s
 have hf:=fun s=>Q9 hs hp id s
 unfold Pg.pZ
 generalize lj id p.procs=r at hf ⊢
 unfold S0
 cases r with
 | none=>
  simp only [kA]at hf
  refine aI.go tw rfl fun B Q hB hQ=> ?_
  have⟨hD,hJ,hP,hZ⟩:=b7
  repeat' (first
 | simp only [go_sem,hD,hJ,hP,hZ,Cg,Q8]
 | (with_reducible refine CU (hf _) ?_)
 | (with_reducible refine aJ hQ ?_;simp only [az,aB,Option.some.injEq,exists_eq_left',go_sem,hD,hJ,hP,hZ];repeat' (first | exact Ok.out | with_reducible refine aR ?_ ?_ | (simp;done))))
 | some x=>
  obtain⟨i,nm⟩:=x
  simp only [kA]at hf
  refine aI.go tw rfl fun B Q hB hQ=> ?_
  have⟨hD,hJ,hP,hZ⟩:=b7
  repeat' (first
 | simp only [go_sem,hD,hJ,hP,hZ,Cg]
 | (with_reducible refine CU (hf _) ?_)
 | (with_reducible refine aJ hQ ?_;simp only [az,aB,Option.some.injEq,exists_eq_left',go_sem,hD,hJ,hP,hZ];repeat' (first | exact Ok.out | with_reducible refine aR ?_ ?_ | (simp;done))))
end Go.Abs

/-! Full1 -/

namespace Go.Abs
set_option maxRecDepth 8000
open Go.Proofs
def bM (t:aD) (n:Int):Int:=if n > 20000 then 20001 else if(t.length:Int)≥20000 - n then 20001 else n+1+t.length
mutual
def dz:Ex→Int→Int
 | ⟨_,_,name,kids⟩,n=>ke kids (bM name n)
def ke:List Ex→Int→Int
 | [],n=>n
 | x::l,n=>if n≤20000 then ke l (dz x n)else n
end
theorem jB {t:aD} {n:Int} (h0:0≤n):bM t n≤20001∧(n≤20000→n+1≤bM t n)∧0≤bM t n∧(bM t n≤20000→n+1+t.length=bM t n):=by
 unfold bM;split
 ·omega
 ·split <;> omega
theorem qs : ∀ (m:Nat) (x:Ex),x.size≤m→∀ n:Int,0≤n→dz x n≤20001∧(n≤20000→n+1≤dz x n)∧0≤dz x n∧(dz x n≤20000→(x.size:Int)+1≤2*(dz x n - n)∧x.texts):=by
 intro m
 induction m with
 | zero=>rintro⟨op,v,name,kids⟩ h;simp only [Ex.size]at h;omega
 | succ m ih=>
  rintro⟨op,v,name,kids⟩ h n h0
  simp only [Ex.size]at h
  obtain⟨t1,t2,t3,t4⟩:=jB (t:=name) h0
  have go : ∀ (l:List Ex),Ex.aO l≤m→∀ c:Int,0≤c→c≤20001→ke l c≤20001∧c≤ke l c∧(ke l c≤20000→(Ex.aO l:Int)≤2*(ke l c - c)∧Ex.qk l):=by
   intro l
   induction l with
   | nil=>intro _ c h0 h1;simp only [ke,Ex.aO];exact⟨h1,Int.le_refl _,fun _=>⟨by omega,trivial⟩⟩
   | cons y l ihl=>
    intro hs c h0 h1
    simp only [Ex.aO]at hs ⊢
    simp only [ke]
    split
    ·rename_i hc
     obtain⟨a1,a2,a3,a4⟩:=ih y (by omega) c h0
     obtain⟨b1,b2,b3⟩:=ihl (by omega) (dz y c) a3 a1
     have:=a2 hc
     refine⟨b1,by omega,fun hw=> ?_⟩
     obtain⟨c1,c2⟩:=b3 hw
     obtain⟨d1,d2⟩:=a4 (by omega)
     exact⟨by omega,d2,c2⟩
    ·exact⟨h1,Int.le_refl _,fun hw=>by omega⟩
  obtain⟨g1,g2,g3⟩:=go kids (by omega) (bM name n) t3 t1
  simp only [dz,Ex.size]
  refine⟨g1,fun hn=>by have:=t2 hn;omega,by omega,fun hw=> ?_⟩
  obtain⟨k1,k2⟩:=g3 hw
  have:=t4 (by omega)
  exact⟨by omega,by omega,k2⟩
theorem mH (t:aD) {n:Int} (h0:0≤n) (h1:n≤20001) (s:St):aI Try.prog eK [.str t, .int .i64 n] s (.int .i64 (bM t n)) s:=by
 refine aI.pure ?_ rfl rfl s
 unfold S0
 have w1:IntKind.wrap .i64 (20000 - n)=20000 - n:=dk (by omega) (by omega)
 have w2:IntKind.wrap .i64 (n+1)=n+1:=dk (by omega) (by omega)
 by_cases c:n > 20000
 ·have c1:decide (n > 20000)=true:=by simp;omega
  have e:bM t n=20001:=by simp [bM,c]
  rw [e]
  refine aI.go lD rfl fun B Q hB hQ=> ?_
  have⟨hD,hJ,hP,hZ⟩:=b7
  repeat' (first
 | simp only [go_sem,hD,hJ,hP,hZ,c1,w1,w2]
 | (with_reducible first | refine cm fun hc=> ?_ | refine cq fun hc=> ?_ | refine cr (fun hc=> ?_) fun hc=> ?_) <;> (try simp only [hc,bs, ↓reduceIte]at h) <;> try simp only [hc]
 | (with_reducible refine aJ hQ ?_;(try cases h);simp only [az,aB,cY,cZ,go_sem,hD,hJ,hP,hZ,c1,w1,w2];try exact iD)
 | (cases h;done))
 ·have c1:decide (n > 20000)=false:=by simp;omega
  by_cases d:(t.length:Int)≥20000 - n
  ·have d1:decide ((t.length:Int)≥20000 - n)=true:=by simp;omega
   have e:bM t n=20001:=by unfold bM;rw [if_neg c,if_pos d]
   rw [e]
   refine aI.go lD rfl fun B Q hB hQ=> ?_
   have⟨hD,hJ,hP,hZ⟩:=b7
   repeat' (first
 | simp only [go_sem,hD,hJ,hP,hZ,c1,d1,w1,w2]
 | (with_reducible first | refine cm fun hc=> ?_ | refine cq fun hc=> ?_ | refine cr (fun hc=> ?_) fun hc=> ?_) <;> (try simp only [hc,bs, ↓reduceIte]at h) <;> try simp only [hc]
 | (with_reducible refine aJ hQ ?_;(try cases h);simp only [az,aB,cY,cZ,go_sem,hD,hJ,hP,hZ,c1,d1,w1,w2];try exact iD)
 | (cases h;done))
  ·have d1:decide ((t.length:Int)≥20000 - n)=false:=by simp;omega
   have e:bM t n=n+1+t.length:=by unfold bM;rw [if_neg c,if_neg d]
   have w3:IntKind.wrap .i64 (n+1+t.length)=n+1+t.length:=dk (by omega) (by omega)
   rw [e]
   refine aI.go lD rfl fun B Q hB hQ=> ?_
   have⟨hD,hJ,hP,hZ⟩:=b7
   repeat' (first
 | simp only [go_sem,hD,hJ,hP,hZ,c1,d1,w1,w2,w3]
 | (with_reducible first | refine cm fun hc=> ?_ | refine cq fun hc=> ?_ | refine cr (fun hc=> ?_) fun hc=> ?_) <;> (try simp only [hc,bs, ↓reduceIte]at h) <;> try simp only [hc]
 | (with_reducible refine aJ hQ ?_;(try cases h);simp only [az,aB,cY,cZ,go_sem,hD,hJ,hP,hZ,c1,d1,w1,w2,w3];try exact iD)
 | (cases h;done))
theorem CO : ∀ (m:Nat) (x:Ex),x.size≤m→∀ {n:Int},0≤n→n≤20000→∀ s:St,aI Try.prog gD [.agg (bx x), .int .i64 n] s (.int .i64 (dz x n)) s:=by
 intro m
 induction m with
 | zero=>rintro⟨op,v,name,kids⟩ h;simp only [Ex.size]at h;omega
 | succ m ih=>
  rintro⟨op,v,name,kids⟩ dC n h0 h1 s
  refine aI.pure ?_ (by simp [D.bI,D.ok,jg]) rfl s
  simp only [Ex.size]at dC
  have hk : ∀ y∈kids,∀ {n:Int},0≤n→n≤20000→∀ s:St,aI Try.prog gD [.agg (bx y), .int .i64 n] s (.int .i64 (dz y n)) s:=fun y hy=>ih y (by have:=Ex.bW hy;omega)
  have ht:=fun s=>mH name h0 (by omega) s
  obtain⟨t1,t2,t3,t4⟩:=jB (t:=name) h0
  unfold S0
  generalize h:dz ⟨op,v,name,kids⟩ n=p
  simp only [dz]at h
  refine aI.go uK rfl fun B Q hB hQ=> ?_
  have⟨hD,hJ,hP,hZ⟩:=b7
  repeat' (first
 | simp only [go_sem,hD,hJ,hP,hZ]
 | (with_reducible refine CU (ht _) ?_)
 | (with_reducible first | refine cm fun hc=> ?_ | refine cq fun hc=> ?_ | refine cr (fun hc=> ?_) fun hc=> ?_) <;> (try simp only [hc,bs, ↓reduceIte]at h) <;> try simp only [hc]
 | (with_reducible refine aJ hQ ?_;exact ik)
 | (cases h;done))
  refine dG 1 0 (bq.ind (ι:=List Ex×Nat×Int) (fun i=>kids.drop i.2.1=i.1∧ke i.1 i.2.2=p∧(i.2.1:Int)≤i.2.2∧i.2.2≤20001) (fun i=>i.1.length)
   (fun i=> [(1, .int .i64 i.2.2),(2, .ptr 0 0),(5, .int .i64 (i.2.1:Int))]) (fun i=>⟨[bx ⟨op,v,name,kids⟩],[]⟩) ?_ (kids,0,bM name n) ⟨rfl,h,t3,t1⟩)
  rintro⟨rest,k,c⟩ ⟨g1,h,g3,g4⟩ IH
  dsimp only at g1 h g3 g4
  cases rest with
  | nil=>
   have hD:=drop_nil g1
   simp only [ke]at h
   repeat' (first
 | simp only [go_sem,hD,hJ,hP,hZ]
 | (with_reducible first | refine cm fun hc=> ?_ | refine cq fun hc=> ?_ | refine cr (fun hc=> ?_) fun hc=> ?_) <;> (try simp only [hc,bs, ↓reduceIte]at h) <;> try simp only [hc]
 | (with_reducible refine aJ hQ ?_;exact ik)
 | (cases h;done))
  | cons y rest=>
   obtain⟨hJ,g2,hD,g5⟩:=drop_cons g1
   simp only [ke]at h
   by_cases hc:c≤20000
   ·have c1:decide (c≤20000)=true:=by simp;omega
    have hy:=fun s=>hk y (List.mem_of_getElem? hJ) (n:=c) (by omega) hc s
    obtain⟨a1,a2,a3,a4⟩:=qs _ y (Nat.le_refl _) c (by omega)
    have:=a2 hc
    have w3:IntKind.wrap .i64 ((k:Int)+1)=((k+1:Nat):Int):=by rw [dk] <;> omega
    rw [if_pos hc]at h
    repeat' (first
 | simp only [go_sem,hD,hJ,hP,hZ,c1,w3]
 | (with_reducible refine CU (hy _) ?_)
 | (with_reducible first | refine cm fun hc=> ?_ | refine cq fun hc=> ?_ | refine cr (fun hc=> ?_) fun hc=> ?_) <;> (try simp only [hc,bs, ↓reduceIte]at h) <;> try simp only [hc]
 | (with_reducible refine aJ hQ ?_;(try cases h);simp only [az,aB,cY,cZ,go_sem,hD,hJ,hP,hZ,c1,w3];try exact iD)
 | (cases h;done))
    refine dG 1 0 (IH (rest,k+1,dz y c) ⟨g2,h,by dsimp only;omega,a1⟩ (Nat.lt_succ_self _))
   ·have c1:decide (c≤20000)=false:=by simp;omega
    rw [if_neg hc]at h
    repeat' (first
 | simp only [go_sem,hD,hJ,hP,hZ,c1]
 | (with_reducible first | refine cm fun hc=> ?_ | refine cq fun hc=> ?_ | refine cr (fun hc=> ?_) fun hc=> ?_) <;> (try simp only [hc,bs, ↓reduceIte]at h) <;> try simp only [hc]
 | (with_reducible refine aJ hQ ?_;(try cases h);simp only [az,aB,cY,cZ,go_sem,hD,hJ,hP,hZ,c1];try exact iD)
 | (cases h;done))
end Go.Abs

/-! Fits1 -/

namespace Go.Abs
set_option maxRecDepth 8000
open Go.Proofs
def cL:List aD→Int→Int
 | [],n=>n
 | t::l,n=>if n≤20000 then cL l (bM t n)else n
def fF:List Ar→Int→Int
 | [],n=>n
 | a::l,n=>if n≤20000 then fF l (bM a.name (dz a.x n))else n
def gX:List Pm→Int→Int
 | [],n=>n
 | a::l,n=>if n≤20000 then gX l (bM a.name n)else n
mutual
def nI:Sm→Int→Int
 | ⟨_,_,labels,name,proc,x,_,args,aY,aM⟩,n=>dT aM (dT aY (fF args (bM proc (bM name (cL labels (dz x n))))))
def dT:List Sm→Int→Int
 | [],n=>n
 | s::l,n=>if n≤20000 then dT l (nI s n)else n
end
theorem I7 (s:Sm) (n:Int):nI s n=dT s.aM (dT s.aY (fF s.args (bM s.proc (bM s.name (cL s.labels (dz s.x n)))))):=by cases s;simp only [nI]
def o3 (f:Pc) (n:Int):Int:=dT f.body (gX f.params (cL f.fin (cL f.vars (bM f.name n))))
def kf:List Pc→Int→Int
 | [],n=>n
 | f::l,n=>if n≤20000 then kf l (o3 f n)else n
def Pg.vA (p:Pg):Int:=kf p.procs (cL p.globals 0)
theorem iA : ∀ (l:List aD) {n:Int},0≤n→n≤20001→cL l n≤20001∧n≤cL l n∧(cL l n≤20000→n+l.length≤cL l n∧∀ t∈l,t.length<4611686018427387904)
 | [],n,h0,h1=>by simp only [cL];exact⟨h1,Int.le_refl _,fun _=>⟨by simp,by simp⟩⟩
 | t::l,n,h0,h1=>by
  simp only [cL]
  split
  ·rename_i hc
   obtain⟨a1,a2,a3,a4⟩:=jB (t:=t) h0
   obtain⟨b1,b2,b3⟩:=iA l (n:=bM t n) a3 a1
   have:=a2 hc
   refine⟨b1,by omega,fun hw=> ?_⟩
   obtain⟨c1,c2⟩:=b3 hw
   have:=a4 (by omega)
   refine⟨by simp only [List.length_cons];omega,fun s m=> ?_⟩
   rcases List.mem_cons.1 m with rfl | m
   ·omega
   ·exact c2 s m
  ·exact⟨h1,Int.le_refl _,fun hw=>by omega⟩
theorem s8 : ∀ (l:List Pm) {n:Int},0≤n→n≤20001→gX l n≤20001∧n≤gX l n∧(gX l n≤20000→n+l.length≤gX l n∧∀ t∈l,t.name.length<4611686018427387904)
 | [],n,h0,h1=>by simp only [gX];exact⟨h1,Int.le_refl _,fun _=>⟨by simp,by simp⟩⟩
 | t::l,n,h0,h1=>by
  simp only [gX]
  split
  ·rename_i hc
   obtain⟨a1,a2,a3,a4⟩:=jB (t:=t.name) h0
   obtain⟨b1,b2,b3⟩:=s8 l (n:=bM t.name n) a3 a1
   have:=a2 hc
   refine⟨b1,by omega,fun hw=> ?_⟩
   obtain⟨c1,c2⟩:=b3 hw
   have:=a4 (by omega)
   refine⟨by simp only [List.length_cons];omega,fun s m=> ?_⟩
   rcases List.mem_cons.1 m with rfl | m
   ·omega
   ·exact c2 s m
  ·exact⟨h1,Int.le_refl _,fun hw=>by omega⟩
theorem s9 : ∀ (l:List Ar) {n:Int},0≤n→n≤20001→fF l n≤20001∧n≤fF l n∧
 (fF l n≤20000→(Ar.aO l:Int)≤2*(fF l n - n)∧∀ a∈l,a.x.size<4611686018427387904∧a.x.texts∧a.name.length<4611686018427387904)
 | [],n,h0,h1=>by simp only [fF];exact⟨h1,Int.le_refl _,fun _=>⟨by simp [Ar.aO],by simp⟩⟩
 | a::l,n,h0,h1=>by
  simp only [fF]
  split
  ·rename_i hc
   obtain⟨a1,a2,a3,a4⟩:=qs _ a.x (Nat.le_refl _) n h0
   obtain⟨e1,e2,e3,e4⟩:=jB (t:=a.name) a3
   obtain⟨b1,b2,b3⟩:=s9 l (n:=bM a.name (dz a.x n)) e3 e1
   have:=a2 hc
   have:dz a.x n≤bM a.name (dz a.x n):=by
    by_cases h:dz a.x n≤20000
    ·have:=e2 h;omega
    ·have:bM a.name (dz a.x n)=20001:=by unfold bM;rw [if_pos (by omega)]
     omega
   refine⟨b1,by omega,fun hw=> ?_⟩
   obtain⟨c1,c2⟩:=b3 hw
   have:=e4 (by omega)
   obtain⟨d1,d2⟩:=a4 (by omega)
   refine⟨by simp only [Ar.aO];omega,fun s m=> ?_⟩
   rcases List.mem_cons.1 m with rfl | m
   ·exact⟨by omega,d2,by omega⟩
   ·exact c2 s m
  ·exact⟨h1,Int.le_refl _,fun hw=>by omega⟩
theorem iH {t:aD} {n:Int} (h0:0≤n) (h1:n≤20001):n≤bM t n∧bM t n≤20001∧(bM t n≤20000→n+1≤bM t n∧t.length<4611686018427387904):=by
 obtain⟨e1,e2,e3,e4⟩:=jB (t:=t) h0
 by_cases h:n≤20000
 ·have:=e2 h
  exact⟨by omega,e1,fun hw=>⟨by omega,by have:=e4 hw;omega⟩⟩
 ·have:bM t n=20001:=by unfold bM;rw [if_pos (by omega)]
  exact⟨by omega,e1,fun hw=>by omega⟩
mutual
theorem Ai : ∀ (s:Sm) {n:Int},0≤n→n≤20000→nI s n≤20001∧n+1≤nI s n∧(nI s n≤20000→(s.size:Int)+1≤2*(nI s n - n)∧s.qV)
 | ⟨id,kind,labels,name,proc,x,has,args,aY,aM⟩,n,h0,h1=>by
  obtain⟨a1,a2,a3,a4⟩:=qs _ x (Nat.le_refl _) n h0
  have a2:=a2 h1
  obtain⟨b1,b2,b3⟩:=iA labels a3 a1
  obtain⟨c1,c2,c3⟩:=iH (t:=name) (n:=cL labels (dz x n)) (by omega) b1
  obtain⟨d1,d2,d3⟩:=iH (t:=proc) (n:=bM name (cL labels (dz x n))) (by omega) c2
  obtain⟨e1,e2,e3⟩:=s9 args (n:=bM proc (bM name (cL labels (dz x n)))) (by omega) d2
  obtain⟨f1,f2,f3⟩:=nJ aY (n:=fF args (bM proc (bM name (cL labels (dz x n))))) (by omega) e1
  obtain⟨g1,g2,g3⟩:=nJ aM (n:=dT aY (fF args (bM proc (bM name (cL labels (dz x n)))))) (by omega) f1
  simp only [nI,Sm.size]
  refine⟨g1,by omega,fun hw=> ?_⟩
  obtain⟨g4,g5⟩:=g3 hw
  obtain⟨f4,f5⟩:=f3 (by omega)
  obtain⟨e4,e5⟩:=e3 (by omega)
  obtain⟨d4,d5⟩:=d3 (by omega)
  obtain⟨c4,c5⟩:=c3 (by omega)
  obtain⟨b4,b5⟩:=b3 (by omega)
  obtain⟨a5,a6⟩:=a4 (by omega)
  have:=Ar.cH args
  refine⟨by omega, ?_⟩
  rw [wL]
  exact⟨⟨b5,by dsimp only;omega,c5,d5,by dsimp only;omega,a6,by dsimp only;omega,e5⟩,f5,g5⟩
theorem nJ : ∀ (l:List Sm) {n:Int},0≤n→n≤20001→dT l n≤20001∧n≤dT l n∧(dT l n≤20000→(Sm.aO l:Int)≤2*(dT l n - n)∧Sm.gR l)
 | [],n,h0,h1=>by simp only [dT];exact⟨h1,Int.le_refl _,fun _=>⟨by simp [Sm.aO],by simp only [Sm.gR]⟩⟩
 | s::l,n,h0,h1=>by
  simp only [dT]
  split
  ·rename_i hc
   obtain⟨a1,a2,a3⟩:=Ai s h0 hc
   obtain⟨b1,b2,b3⟩:=nJ l (n:=nI s n) (by omega) a1
   refine⟨b1,by omega,fun hw=> ?_⟩
   obtain⟨c1,c2⟩:=b3 hw
   obtain⟨d1,d2⟩:=a3 (by omega)
   exact⟨by simp only [Sm.aO];omega,d2,c2⟩
  ·exact⟨h1,Int.le_refl _,fun hw=>by omega⟩
end
theorem Aj (f:Pc) {n:Int} (h0:0≤n) (h1:n≤20000):o3 f n≤20001∧n+1≤o3 f n∧(o3 f n≤20000→(f.size:Int)+1≤2*(o3 f n - n)∧
 (f.name.length<4611686018427387904∧(∀ t∈f.vars,t.length<4611686018427387904)∧(∀ t∈f.fin,t.length<4611686018427387904)∧∀ a∈f.params,a.name.length<4611686018427387904)∧Sm.gR f.body):=by
 obtain⟨c1,c2,c3⟩:=iH (t:=f.name) h0 (by omega:n≤20001)
 have c4:=(jB (t:=f.name) h0).2.1 h1
 obtain⟨d1,d2,d3⟩:=iA f.vars (n:=bM f.name n) (by omega) c2
 obtain⟨e1,e2,e3⟩:=iA f.fin (n:=cL f.vars (bM f.name n)) (by omega) d1
 obtain⟨g1,g2,g3⟩:=s8 f.params (n:=cL f.fin (cL f.vars (bM f.name n))) (by omega) e1
 obtain⟨k1,k2,k3⟩:=nJ f.body (n:=gX f.params (cL f.fin (cL f.vars (bM f.name n)))) (by omega) g1
 unfold o3 Pc.size
 refine⟨k1,by omega,fun hw=> ?_⟩
 obtain⟨k4,k5⟩:=k3 hw
 obtain⟨g4,g5⟩:=g3 (by omega)
 obtain⟨e4,e5⟩:=e3 (by omega)
 obtain⟨d4,d5⟩:=d3 (by omega)
 obtain⟨_,c5⟩:=c3 (by omega)
 exact⟨by omega,⟨c5,d5,e5,g5⟩,k5⟩
theorem x8 : ∀ (l:List Pc) {n:Int},0≤n→n≤20001→kf l n≤20001∧n≤kf l n∧(kf l n≤20000→(Pc.aO l:Int)≤2*(kf l n - n)∧∀ f∈l,
 (f.name.length<4611686018427387904∧(∀ t∈f.vars,t.length<4611686018427387904)∧(∀ t∈f.fin,t.length<4611686018427387904)∧∀ a∈f.params,a.name.length<4611686018427387904)∧Sm.gR f.body)
 | [],n,h0,h1=>by simp only [kf];exact⟨h1,Int.le_refl _,fun _=>⟨by simp [Pc.aO],by simp⟩⟩
 | f::l,n,h0,h1=>by
  simp only [kf]
  split
  ·rename_i hc
   obtain⟨a1,a2,a3⟩:=Aj f h0 hc
   obtain⟨b1,b2,b3⟩:=x8 l (n:=o3 f n) (by omega) a1
   refine⟨b1,by omega,fun hw=> ?_⟩
   obtain⟨c1,c2⟩:=b3 hw
   obtain⟨d1,d2⟩:=a3 (by omega)
   refine⟨by simp only [Pc.aO];omega,fun s m=> ?_⟩
   rcases List.mem_cons.1 m with rfl | m
   ·exact d2
   ·exact c2 s m
  ·exact⟨h1,Int.le_refl _,fun hw=>by omega⟩
theorem Gr {p:Pg} (h:p.vA≤20000):p.size≤40001∧p.A6:=by
 unfold Pg.vA at h
 obtain⟨a1,a2,a3⟩:=iA p.globals (n:=0) (by omega) (by omega)
 obtain⟨b1,b2,b3⟩:=x8 p.procs (n:=cL p.globals 0) (by omega) a1
 obtain⟨c1,c2⟩:=b3 h
 obtain⟨d1,d2⟩:=a3 (by omega)
 have:p.size≤40001:=by unfold Pg.size;omega
 exact⟨this,by omega,d2,fun f m=>(c2 f m).1,fun f m=>(c2 f m).2⟩
theorem q9 {l:List aD} {n:Int} (h0:0≤n) (h1:n≤20001) (s:St):aI Try.prog gf [.slice .shared 1 (l.map encStr), .int .i64 n] s (.int .i64 (cL l n)) s:=by
 refine aI.pure ?_ (by simp [D.bI,D.ok,fc,Tag.ok]) rfl s
 unfold S0
 generalize h:cL l n=p
 refine aI.go tL rfl fun B Q hB hQ=> ?_
 have⟨hD,hJ,hP,hZ⟩:=b7
 repeat' (first
 | simp only [go_sem,hD,hJ,hP,hZ]
 | (with_reducible refine aJ hQ ?_;simp only [az,aB,Option.some.injEq,exists_eq_left',go_sem,hD,hJ,hP,hZ];repeat' (first | exact Ok.out | with_reducible refine aR ?_ ?_ | (simp;done))))
 refine dG 0 0 (bq.ind (ι:=List aD×Nat×Int) (fun i=>l.drop i.2.1=i.1∧cL i.1 i.2.2=p∧(i.2.1:Int)≤i.2.2∧i.2.2≤20001) (fun i=>i.1.length)
  (fun i=> [(0, .slice .shared 1 (l.map encStr)),(1, .int .i64 i.2.2),(5, .int .i64 (i.2.1:Int))]) (fun i=>⟨[],[]⟩) ?_ (l,0,n) ⟨rfl,h,h0,h1⟩)
 rintro⟨rest,k,c⟩ ⟨g1,h,g3,g4⟩ IH
 dsimp only at g1 h g3 g4
 cases rest with
 | nil=>
  have hD:=drop_nil g1
  simp only [cL]at h
  subst h
  repeat' (first
 | simp only [go_sem,hD,hJ,hP,hZ]
 | (with_reducible refine aJ hQ ?_;simp only [az,aB,Option.some.injEq,exists_eq_left',go_sem,hD,hJ,hP,hZ];repeat' (first | exact Ok.out | with_reducible refine aR ?_ ?_ | (simp;done))))
 | cons y rest=>
  obtain⟨hJ,g2,hD,g5⟩:=drop_cons g1
  simp only [cL]at h
  by_cases hc:c≤20000
  ·have c1:decide (c≤20000)=true:=by simp;omega
   have hy:=fun s=>mH y (n:=c) (by omega) g4 s
   obtain⟨a1,a2,a3,a4⟩:=jB (t:=y) (n:=c) (by omega)
   have:=a2 hc
   have w3:IntKind.wrap .i64 ((k:Int)+1)=((k+1:Nat):Int):=by rw [dk] <;> omega
   rw [if_pos hc]at h
   repeat' (first
 | simp only [go_sem,hD,hJ,hP,hZ,c1,w3]
 | (with_reducible refine CU (hy _) ?_)
 | (with_reducible refine aJ hQ ?_;simp only [az,aB,Option.some.injEq,exists_eq_left',go_sem,hD,hJ,hP,hZ];repeat' (first | exact Ok.out | with_reducible refine aR ?_ ?_ | (simp;done))))
   refine dG 0 0 (IH (rest,k+1,bM y c) ⟨g2,h,by dsimp only;omega,a1⟩ (Nat.lt_succ_self _))
  ·have c1:decide (c≤20000)=false:=by simp;omega
   rw [if_neg hc]at h
   subst h
   repeat' (first
 | simp only [go_sem,hD,hJ,hP,hZ,c1]
 | (with_reducible refine aJ hQ ?_;simp only [az,aB,Option.some.injEq,exists_eq_left',go_sem,hD,hJ,hP,hZ];repeat' (first | exact Ok.out | with_reducible refine aR ?_ ?_ | (simp;done))))
theorem I8 : ∀ (m:Nat) (l:List Sm),Sm.aO l≤m→∀ {n:Int},0≤n→n≤20001→∀ s:St,aI Try.prog il [.slice .shared 13 (l.map a7), .int .i64 n] s (.int .i64 (dT l n)) s:=by
 intro m
 induction m with
 | zero=>
  intro l h n h0 h1 s
  cases l with
  | nil=>
   have z:decide ((0:Int)<0)=false:=rfl
   refine aI.pure ?_ (by simp [D.bI,D.ok,D.ig,Tag.ok]) rfl s
   unfold S0
   simp only [dT]
   refine aI.go nU rfl fun B Q hB hQ=> ?_
   have⟨hD,hJ,hP,hZ⟩:=b7
   repeat' (first
 | simp only [go_sem,hD,hJ,hP,hZ,z]
 | (with_reducible refine bq.AY ?_)
 | (with_reducible refine aJ hQ ?_;simp only [az,aB,Option.some.injEq,exists_eq_left',go_sem,hD,hJ,hP,hZ];repeat' (first | exact Ok.out | with_reducible refine aR ?_ ?_ | (simp;done))))
  | cons s l=>simp only [Sm.aO]at h;omega
 | succ m ih=>
  intro l h n h0 h1 s
  refine aI.pure ?_ (by simp [D.bI,D.ok,nh,Tag.ok]) rfl s
  unfold S0
  generalize hp:dT l n=p
  refine aI.go nU rfl fun B Q hB hQ=> ?_
  have⟨hD,hJ,hP,hZ⟩:=b7
  repeat' (first
 | simp only [go_sem,hD,hJ,hP,hZ]
 | (with_reducible refine aJ hQ ?_;simp only [az,aB,Option.some.injEq,exists_eq_left',go_sem,hD,hJ,hP,hZ];repeat' (first | exact Ok.out | with_reducible refine aR ?_ ?_ | (simp;done))))
  refine dG 0 0 (bq.ind (ι:=List Sm×Nat×Int) (fun i=>l.drop i.2.1=i.1∧dT i.1 i.2.2=p∧(i.2.1:Int)≤i.2.2∧i.2.2≤20001) (fun i=>i.1.length)
   (fun i=> [(0, .slice .shared 13 (l.map a7)),(1, .int .i64 i.2.2),(5, .int .i64 (i.2.1:Int))]) (fun i=>⟨[],[]⟩) ?_ (l,0,n) ⟨rfl,hp,h0,h1⟩)
  rintro⟨rest,k,c⟩ ⟨g1,hp,g3,g4⟩ IH
  dsimp only at g1 hp g3 g4
  cases rest with
  | nil=>
   have hD:=drop_nil g1
   simp only [dT]at hp
   subst hp
   repeat' (first
 | simp only [go_sem,hD,hJ,hP,hZ]
 | (with_reducible refine aJ hQ ?_;simp only [az,aB,Option.some.injEq,exists_eq_left',go_sem,hD,hJ,hP,hZ];repeat' (first | exact Ok.out | with_reducible refine aR ?_ ?_ | (simp;done))))
  | cons y rest=>
   obtain⟨hJ,g2,hD,g5⟩:=drop_cons g1
   simp only [dT]at hp
   by_cases hc:c≤20000
   ·have c1:decide (c≤20000)=true:=by simp;omega
    have kW:=List.mem_of_getElem? hJ
    have dC:=Sm.bW kW
    have Wc:s.av.length≤s.av.length∧Sm.aO y.aY<y.size∧Sm.aO y.aM<y.size:=by cases y;simp only [Sm.size];omega
    have w3:IntKind.wrap .i64 ((k:Int)+1)=((k+1:Nat):Int):=by rw [dk] <;> omega
    rw [if_pos hc]at hp
    obtain⟨a1,a2,a3,a4⟩:=qs _ y.x (Nat.le_refl _) c (by omega)
    have a2:=a2 hc
    obtain⟨b1,b2,b3⟩:=iA y.labels a3 a1
    obtain⟨c1',c2,c3⟩:=iH (t:=y.name) (n:=cL y.labels (dz y.x c)) (by omega) b1
    obtain⟨d1,d2,d3⟩:=iH (t:=y.proc) (n:=bM y.name (cL y.labels (dz y.x c))) (by omega) c2
    have eE:=fun s=>CO _ y.x (Nat.le_refl _) (n:=c) (by omega) hc s
    have eL:=fun s=>q9 (l:=y.labels) (n:=dz y.x c) (by omega) a1 s
    have eN:=fun s=>mH y.name (n:=cL y.labels (dz y.x c)) (by omega) b1 s
    have eP:=fun s=>mH y.proc (n:=bM y.name (cL y.labels (dz y.x c))) (by omega) c2 s
    obtain⟨r1,r2,r3⟩:=Ai y (n:=c) (by omega) hc
    rw [I7]at hp r1 r2
    generalize hC:bM y.proc (bM y.name (cL y.labels (dz y.x c)))=C at *
    obtain⟨s1,s2,s3⟩:=s9 y.args (n:=C) (by omega) d2
    obtain⟨t1,t2,t3⟩:=nJ y.aY (n:=fF y.args C) (by omega) s1
    have eT:=fun s=>ih y.aY (by omega) (n:=fF y.args C) (by omega) s1 s
    have eS:=fun s=>ih y.aM (by omega) (n:=dT y.aY (fF y.args C)) (by omega) t1 s
    generalize hW:fF y.args C=W at *
    repeat' (first
 | simp only [go_sem,hD,hJ,hP,hZ,c1,w3]
 | (with_reducible refine CU (eE _) ?_)
 | (with_reducible refine CU (eL _) ?_)
 | (with_reducible refine CU (eN _) ?_)
 | (with_reducible refine CU (eP _) ?_)
 | (with_reducible refine aJ hQ ?_;simp only [az,aB,Option.some.injEq,exists_eq_left',go_sem,hD,hJ,hP,hZ];repeat' (first | exact Ok.out | with_reducible refine aR ?_ ?_ | (simp;done))))
    refine dG 1 0 (bq.ind (ι:=List Ar×Nat×Int) (fun i=>y.args.drop i.2.1=i.1∧fF i.1 i.2.2=W∧(i.2.1:Int)≤i.2.2∧i.2.2≤20001) (fun i=>i.1.length)
     (fun i=> [(0, .slice .shared 13 (l.map a7)),(1, .int .i64 i.2.2),(5, .int .i64 (k:Int)),(6, .ptr 0 0),(7, .int .i64 (i.2.1:Int))]) (fun i=>⟨[a7 y],[]⟩) ?_ (y.args,0,C) ⟨rfl,hW,by dsimp only;omega,d2⟩)
    rintro⟨Re,j,e⟩ ⟨k1,hw,k3,k4⟩ xM
    dsimp only at k1 hw k3 k4
    cases Re with
    | nil=>
     have hD:=drop_nil k1
     simp only [fF]at hw
     subst hw
     repeat' (first
 | simp only [go_sem,hD,hJ,hP,hZ,w3]
 | (with_reducible refine CU (eT _) ?_)
 | (with_reducible refine CU (eS _) ?_)
 | (with_reducible refine aJ hQ ?_;simp only [az,aB,Option.some.injEq,exists_eq_left',go_sem,hD,hJ,hP,hZ];repeat' (first | exact Ok.out | with_reducible refine aR ?_ ?_ | (simp;done))))
     refine dG 0 0 (IH (rest,k+1,dT y.aM (dT y.aY e)) ⟨g2,hp,by dsimp only;omega,r1⟩ (Nat.lt_succ_self _))
    | cons a Re=>
     obtain⟨hJ,k2,hD,k5⟩:=drop_cons k1
     simp only [fF]at hw
     by_cases he:e≤20000
     ·have e1:decide (e≤20000)=true:=by simp;omega
      have w4:IntKind.wrap .i64 ((j:Int)+1)=((j+1:Nat):Int):=by rw [dk] <;> omega
      rw [if_pos he]at hw
      obtain⟨u1,u2,u3,u4⟩:=qs _ a.x (Nat.le_refl _) e (by omega)
      have u2:=u2 he
      obtain⟨v1,v2,v3⟩:=iH (t:=a.name) (n:=dz a.x e) u3 u1
      have eX:=fun s=>CO _ a.x (Nat.le_refl _) (n:=e) (by omega) he s
      have eM:=fun s=>mH a.name (n:=dz a.x e) u3 u1 s
      repeat' (first
 | simp only [go_sem,hD,hJ,hP,hZ,e1,w4]
 | (with_reducible refine CU (eX _) ?_)
 | (with_reducible refine CU (eM _) ?_)
 | (with_reducible refine aJ hQ ?_;simp only [az,aB,Option.some.injEq,exists_eq_left',go_sem,hD,hJ,hP,hZ];repeat' (first | exact Ok.out | with_reducible refine aR ?_ ?_ | (simp;done))))
      refine dG 1 0 (xM (Re,j+1,bM a.name (dz a.x e)) ⟨k2,hw,by dsimp only;omega,v2⟩ (Nat.lt_succ_self _))
     ·have e1:decide (e≤20000)=false:=by simp;omega
      rw [if_neg he]at hw
      subst hw
      repeat' (first
 | simp only [go_sem,hD,hJ,hP,hZ,e1,w3]
 | (with_reducible refine CU (eT _) ?_)
 | (with_reducible refine CU (eS _) ?_)
 | (with_reducible refine aJ hQ ?_;simp only [az,aB,Option.some.injEq,exists_eq_left',go_sem,hD,hJ,hP,hZ];repeat' (first | exact Ok.out | with_reducible refine aR ?_ ?_ | (simp;done))))
      refine dG 0 0 (IH (rest,k+1,dT y.aM (dT y.aY e)) ⟨g2,hp,by dsimp only;omega,r1⟩ (Nat.lt_succ_self _))
   ·have c1:decide (c≤20000)=false:=by simp;omega
    rw [if_neg hc]at hp
    subst hp
    repeat' (first
 | simp only [go_sem,hD,hJ,hP,hZ,c1]
 | (with_reducible refine aJ hQ ?_;simp only [az,aB,Option.some.injEq,exists_eq_left',go_sem,hD,hJ,hP,hZ];repeat' (first | exact Ok.out | with_reducible refine aR ?_ ?_ | (simp;done))))
end Go.Abs

/-! Fits2 -/

namespace Go.Abs
set_option maxRecDepth 8000
open Go.Proofs
theorem Rf (p:Pg) (s:St):aI Try.prog rr [.agg (bP p)] s (.bool (decide (p.vA≤20000))) s:=by
 refine aI.pure ?_ (by simp only [D.bI,D.ok,iU];rfl) rfl s
 unfold S0
 generalize hp:p.vA=W
 unfold Pg.vA at hp
 obtain⟨a1,a2,a3⟩:=iA p.globals (n:=0) (by omega) (by omega)
 have eG:=fun s=>q9 (l:=p.globals) (n:=0) (by omega) (by omega) s
 refine aI.go Aw rfl fun B Q hB hQ=> ?_
 have⟨hD,hJ,hP,hZ⟩:=b7
 repeat' (first
 | simp only [go_sem,hD,hJ,hP,hZ]
 | (with_reducible refine CU (eG _) ?_)
 | (with_reducible refine aJ hQ ?_;simp only [az,aB,cY,cZ,go_sem,hD,hJ,hP,hZ];repeat' (first | exact Ok.out | with_reducible refine aR ?_ ?_ | (simp;done))))
 refine dG 1 0 (bq.ind (ι:=List Pc×Nat×Int) (fun i=>p.procs.drop i.2.1=i.1∧kf i.1 i.2.2=W∧(i.2.1:Int)≤i.2.2∧i.2.2≤20001) (fun i=>i.1.length)
  (fun i=> [(1, .ptr 0 0),(3, .int .i64 i.2.2),(4, .int .i64 (i.2.1:Int))]) (fun i=>⟨[bP p],[]⟩) ?_ (p.procs,0,cL p.globals 0) ⟨rfl,hp,a2,a1⟩)
 rintro⟨rest,k,c⟩ ⟨g1,hp,g3,g4⟩ IH
 dsimp only at g1 hp g3 g4
 cases rest with
 | nil=>
  have hD:=drop_nil g1
  simp only [kf]at hp
  subst hp
  repeat' (first
 | simp only [go_sem,hD,hJ,hP,hZ]
 | (with_reducible refine aJ hQ ?_;simp only [az,aB,cY,cZ,go_sem,hD,hJ,hP,hZ];repeat' (first | exact Ok.out | with_reducible refine aR ?_ ?_ | (simp;done))))
 | cons f rest=>
  obtain⟨hJ,g2,hD,g5⟩:=drop_cons g1
  simp only [kf]at hp
  by_cases hc:c≤20000
  ·have c1:decide (c≤20000)=true:=by simp;omega
   have w3:IntKind.wrap .i64 ((k:Int)+1)=((k+1:Nat):Int):=by rw [dk] <;> omega
   rw [if_pos hc]at hp
   obtain⟨r1,r2,r3⟩:=Aj f (n:=c) (by omega) hc
   unfold o3 at hp r1 r2
   obtain⟨c1',c2,c3⟩:=iH (t:=f.name) (n:=c) (by omega) g4
   obtain⟨d1,d2,d3⟩:=iA f.vars (n:=bM f.name c) (by omega) c2
   obtain⟨e1,e2,e3⟩:=iA f.fin (n:=cL f.vars (bM f.name c)) (by omega) d1
   have eN:=fun s=>mH f.name (n:=c) (by omega) g4 s
   have eV:=fun s=>q9 (l:=f.vars) (n:=bM f.name c) (by omega) c2 s
   have eF:=fun s=>q9 (l:=f.fin) (n:=cL f.vars (bM f.name c)) (by omega) d1 s
   generalize hC:cL f.fin (cL f.vars (bM f.name c))=C at *
   obtain⟨s1,s2,s3⟩:=s8 f.params (n:=C) (by omega) e1
   have eT:=fun s=>I8 _ f.body (Nat.le_refl _) (n:=gX f.params C) (by omega) s1 s
   generalize hM:gX f.params C=M at *
   repeat' (first
 | simp only [go_sem,hD,hJ,hP,hZ,c1,w3]
 | (with_reducible refine CU (eN _) ?_)
 | (with_reducible refine CU (eV _) ?_)
 | (with_reducible refine CU (eF _) ?_)
 | (with_reducible refine aJ hQ ?_;simp only [az,aB,cY,cZ,go_sem,hD,hJ,hP,hZ];repeat' (first | exact Ok.out | with_reducible refine aR ?_ ?_ | (simp;done))))
   refine dG 2 0 (bq.ind (ι:=List Pm×Nat×Int) (fun i=>f.params.drop i.2.1=i.1∧gX i.1 i.2.2=M∧(i.2.1:Int)≤i.2.2∧i.2.2≤20001) (fun i=>i.1.length)
    (fun i=> [(1, .ptr 0 0),(3, .int .i64 i.2.2),(4, .int .i64 (k:Int)),(5, .ptr 1 0),(6, .int .i64 (i.2.1:Int))]) (fun i=>⟨[bP p,bT f],[]⟩) ?_ (f.params,0,C) ⟨rfl,hM,by dsimp only;omega,e1⟩)
   rintro⟨ms,j,e⟩ ⟨k1,hw,k3,k4⟩ xM
   dsimp only at k1 hw k3 k4
   cases ms with
   | nil=>
    have hD:=drop_nil k1
    simp only [gX]at hw
    subst hw
    repeat' (first
 | simp only [go_sem,hD,hJ,hP,hZ,w3]
 | (with_reducible refine CU (eT _) ?_)
 | (with_reducible refine aJ hQ ?_;simp only [az,aB,cY,cZ,go_sem,hD,hJ,hP,hZ];repeat' (first | exact Ok.out | with_reducible refine aR ?_ ?_ | (simp;done))))
    refine dG 1 0 (IH (rest,k+1,dT f.body e) ⟨g2,hp,by dsimp only;omega,r1⟩ (Nat.lt_succ_self _))
   | cons a ms=>
    obtain⟨hJ,k2,hD,k5⟩:=drop_cons k1
    simp only [gX]at hw
    by_cases he:e≤20000
    ·have e1:decide (e≤20000)=true:=by simp;omega
     have w4:IntKind.wrap .i64 ((j:Int)+1)=((j+1:Nat):Int):=by rw [dk] <;> omega
     rw [if_pos he]at hw
     obtain⟨v1,v2,v3⟩:=iH (t:=a.name) (n:=e) (by omega) k4
     have v4:=(jB (t:=a.name) (n:=e) (by omega)).2.1 he
     have eM:=fun s=>mH a.name (n:=e) (by omega) k4 s
     repeat' (first
 | simp only [go_sem,hD,hJ,hP,hZ,e1,w4]
 | (with_reducible refine CU (eM _) ?_)
 | (with_reducible refine aJ hQ ?_;simp only [az,aB,cY,cZ,go_sem,hD,hJ,hP,hZ];repeat' (first | exact Ok.out | with_reducible refine aR ?_ ?_ | (simp;done))))
     refine dG 2 0 (xM (ms,j+1,bM a.name e) ⟨k2,hw,by dsimp only;omega,v2⟩ (Nat.lt_succ_self _))
    ·have e1:decide (e≤20000)=false:=by simp;omega
     rw [if_neg he]at hw
     subst hw
     repeat' (first
 | simp only [go_sem,hD,hJ,hP,hZ,e1,w3]
 | (with_reducible refine CU (eT _) ?_)
 | (with_reducible first | refine cm fun hc=> ?_ | refine cq fun hc=> ?_ | refine cr (fun hc=> ?_) fun hc=> ?_) <;> (try simp only [hc,bs, ↓reduceIte]at h) <;> try simp only [hc]
 | (with_reducible refine aJ hQ ?_;simp only [az,aB,cY,cZ,go_sem,hD,hJ,hP,hZ,e1,w3];repeat' (first | exact Ok.out | with_reducible refine aR ?_ ?_ | (simp;done))))
     refine dG 1 0 (IH (rest,k+1,dT f.body e) ⟨g2,hp,by dsimp only;omega,r1⟩ (Nat.lt_succ_self _))
  ·have c1:decide (c≤20000)=false:=by simp;omega
   rw [if_neg hc]at hp
   subst hp
   repeat' (first
 | simp only [go_sem,hD,hJ,hP,hZ,c1]
 | (with_reducible first | refine cm fun hc=> ?_ | refine cq fun hc=> ?_ | refine cr (fun hc=> ?_) fun hc=> ?_) <;> (try simp only [hc,bs, ↓reduceIte]at h) <;> try simp only [hc]
 | (with_reducible refine aJ hQ ?_;simp only [az,aB,cY,cZ,go_sem,hD,hJ,hP,hZ,c1];repeat' (first | exact Ok.out | with_reducible refine aR ?_ ?_ | (simp;done))))
end Go.Abs

/-! MirEq -/

namespace Go.Abs
def Rg:List aD→List aD→Bool
 | [],_=>true
 | _::_,[]=>true
 | x::l,y::l'=>if !(x==y)then false else Rg l l'
def M3 (l l':List aD):Bool:=if(l.length:Int) != (l'.length:Int)then false else Rg l l'
def Ar.lZ:List Ar→List Ar→Bool
 | [],_=>true
 | _::_,[]=>true
 | a::l,b::l'=>if !(a.ref==b.ref) || !(a.name==b.name) || !(Ex.beq a.x b.x)then false else Ar.lZ l l'
mutual
def Sm.beq:Sm→Sm→Bool
 | ⟨id,kind,labels,name,proc,x,has,args,aY,aM⟩,⟨id',S5,Oq,F5,S6,x',Wy,xp,Rh,Ri⟩=>
  if id != id' || kind != S5 || !(name==F5) || !(proc==S6) || !(has==Wy) || !(M3 labels Oq) || !(Ex.beq x x') || (args.length:Int) != (xp.length:Int)then false
  else if !(Ar.lZ args xp)then false
  else if(if(aY.length:Int) != (Rh.length:Int)then false else Sm.lZ aY Rh)then(if(aM.length:Int) != (Ri.length:Int)then false else Sm.lZ aM Ri)else false
def Sm.lZ:List Sm→List Sm→Bool
 | [],_=>true
 | _::_,[]=>true
 | s::l,t::l'=>if !(Sm.beq s t)then false else Sm.lZ l l'
end
def Sm.Wz (l l':List Sm):Bool:=if(l.length:Int) != (l'.length:Int)then false else Sm.lZ l l'
def Pm.lZ:List Pm→List Pm→Bool
 | [],_=>true
 | _::_,[]=>true
 | a::l,b::l'=>if !((a.name==b.name) && (a.ref==b.ref))then false else Pm.lZ l l'
def Pc.lZ:List Pc→List Pc→Bool
 | [],_=>true
 | _::_,[]=>true
 | f::l,g::l'=>
  if !(f.name==g.name) || (f.params.length:Int) != (g.params.length:Int) || !(M3 f.vars g.vars) || !(M3 f.fin g.fin) || !(Sm.Wz f.body g.body)then false
  else if !(Pm.lZ f.params g.params)then false else Pc.lZ l l'
def Pg.beq (p q:Pg):Bool:=if !(M3 p.globals q.globals) || (p.procs.length:Int) != (q.procs.length:Int)then false else Pc.lZ p.procs q.procs
end Go.Abs

/-! RefEq -/

namespace Go.Abs
open Go.Proofs
end Go.Abs

/-! RefEq2 -/

namespace Go.Abs
set_option maxRecDepth 8000
open Go.Proofs
def vB (n:Int):Ex:=⟨1,n,[],[]⟩
def nK (s:aD):Ex:=⟨2,0,s,[]⟩
def x9 (op:Int) (a b:Ex):Ex:=⟨op,0,[],[a,b]⟩
theorem S7 (n:Int) (s:St):aI Try.prog nn [.int .i64 n] s (.agg (bx (vB n))) s:=by
 refine aI.pure ?_ rfl (by simp [D.ok,jg]) s
 unfold S0
 refine aI.go Cb rfl fun B Q hB hQ=> ?_
 have⟨hD,hJ,hP,hZ⟩:=b7
 repeat' (first
 | simp only [go_sem,hD,hJ,hP,hZ,vB]
 | (with_reducible first | refine cm fun hc=> ?_ | refine cq fun hc=> ?_ | refine cr (fun hc=> ?_) fun hc=> ?_) <;> (try simp only [hc,bs, ↓reduceIte]at h) <;> try simp only [hc]
 | (with_reducible refine aJ hQ ?_;(try cases h);simp only [az,aB,cY,cZ,go_sem,hD,hJ,hP,hZ,vB];try exact iD)
 | (cases h;done))
theorem Gs (t:aD) (s:St):aI Try.prog iE [.str t] s (.agg (bx (nK t))) s:=by
 refine aI.pure ?_ rfl (by simp [D.ok,jg]) s
 unfold S0
 refine aI.go AE rfl fun B Q hB hQ=> ?_
 have⟨hD,hJ,hP,hZ⟩:=b7
 repeat' (first
 | simp only [go_sem,hD,hJ,hP,hZ,nK]
 | (with_reducible first | refine cm fun hc=> ?_ | refine cq fun hc=> ?_ | refine cr (fun hc=> ?_) fun hc=> ?_) <;> (try simp only [hc,bs, ↓reduceIte]at h) <;> try simp only [hc]
 | (with_reducible refine aJ hQ ?_;(try cases h);simp only [az,aB,cY,cZ,go_sem,hD,hJ,hP,hZ,nK];try exact iD)
 | (cases h;done))
theorem I9 (op:Int) (a b:Ex) (s:St):aI Try.prog pR [.int .i64 op, .agg (bx a), .agg (bx b)] s (.agg (bx (x9 op a b))) s:=by
 refine aI.pure ?_ (by simp [D.bI,D.ok,jg]) (by simp [D.ok,jg]) s
 unfold S0
 refine aI.go Cc rfl fun B Q hB hQ=> ?_
 have⟨hD,hJ,hP,hZ⟩:=b7
 repeat' (first
 | simp only [go_sem,hD,hJ,hP,hZ,x9]
 | (with_reducible first | refine cm fun hc=> ?_ | refine cq fun hc=> ?_ | refine cr (fun hc=> ?_) fun hc=> ?_) <;> (try simp only [hc,bs, ↓reduceIte]at h) <;> try simp only [hc]
 | (with_reducible refine aJ hQ ?_;(try cases h);simp only [az,aB,cY,cZ,go_sem,hD,hJ,hP,hZ,x9];try exact iD)
 | (cases h;done))
def source:aD:= [103,108,111,98,97,108,32,103,59,10,112,114,111,99,32,109,97,105,110,40,41,32,123,10,32,118,97,114,32,118,59,10,32,118,32,61,32,50,59,10,32,103,32,61,32,112,40,51,44,32,114,101,102,32,118,41,59,10,32,112,114,105,110,116,32,118,59,10,32,112,114,105,110,116,32,103,59,10,125,10,112,114,111,99,32,112,40,120,44,32,114,101,102,32,121,41,32,123,10,32,121,32,61,32,121,32,43,32,120,59,10,32,105,102,32,40,121,32,62,32,57,41,32,123,10,32,32,103,111,116,111,32,101,59,10,32,125,10,32,114,101,116,117,114,110,32,121,59,10,101,58,32,125,10]
def kB:Pg:=⟨[[103]],[
 ⟨[109,97,105,110],[],[[118]],[
  ⟨1,1,[],[118],[],vB 2,false,[],[],[]⟩,
  ⟨2,4,[],[103],[112],mM,false,[⟨false,[],vB 3⟩,⟨true,[118],mM⟩],[],[]⟩,
  ⟨3,3,[],[],[],nK [118],false,[],[],[]⟩,
  ⟨4,3,[],[],[],nK [103],false,[],[],[]⟩],[]⟩,
 ⟨[112],[⟨[120],false⟩,⟨[121],true⟩],[],[
  ⟨5,1,[],[121],[],x9 8 (nK [121]) (nK [120]),false,[],[],[]⟩,
  ⟨6,5,[],[],[],x9 12 (nK [121]) (vB 9),false,[],[⟨7,10,[],[101],[],mM,false,[],[],[]⟩],[]⟩,
  ⟨8,9,[],[],[],nK [121],true,[],[],[]⟩],[[101]]⟩]⟩
theorem Rj (s:St):aI Try.prog rA [] s (.agg (bP kB)) s:=by
 refine aI.pure ?_ rfl (by simp [D.ok,iU]) s
 unfold S0
 refine aI.go Ax rfl fun B Q hB hQ=> ?_
 have⟨hD,hJ,hP,hZ⟩:=b7
 repeat' (first
 | simp only [go_sem,hD,hJ,hP,hZ,kB]
 | (with_reducible refine CU (S7 _ _) ?_)
 | (with_reducible refine CU (Gs _ _) ?_)
 | (with_reducible refine CU (I9 _ _ _ _) ?_)
 | (with_reducible first | refine cm fun hc=> ?_ | refine cq fun hc=> ?_ | refine cr (fun hc=> ?_) fun hc=> ?_) <;> (try simp only [hc,bs, ↓reduceIte]at h) <;> try simp only [hc]
 | (with_reducible refine aJ hQ ?_;(try cases h);simp only [az,aB,cY,cZ,go_sem,hD,hJ,hP,hZ,kB];repeat' (first | exact Ok.out | with_reducible refine aR ?_ ?_ | (simp;done)))
 | (cases h;done))
 repeat' (first | exact Ok.out | with_reducible refine Wk.agg ?_ | with_reducible refine Wk.rows ?_ | with_reducible refine Wk.slice ?_ | with_reducible refine fS.cons ?_ ?_ | with_reducible refine jW.cons ?_ ?_)
end Go.Abs

/-! LawTo1 -/

namespace Go.Abs
set_option maxRecDepth 8000
open Go.Proofs
theorem Ja:kB.may=true:=by decide +kernel
theorem yY:kB.jy:=⟨uX Ja (by decide +kernel),by decide +kernel⟩
def Pg.adl (p:Pg) (n:Int):aD:=match p.procs[(pB n p.procs.length).toNat]? with | some f=>f.name | none=> []
end Go.Abs

/-! AlP -/

namespace Go.Abs
set_option maxRecDepth 8000
open Go.Proofs
theorem ya {id:Int} : ∀ {l:List It},pY id l=none→∀ i∈l,i.s.id≠id
 | a::l,h,i,m=>by
  simp only [pY]at h
  split at h
  ·cases h
  ·rename_i c
   rcases List.mem_cons.1 m with rfl | m
   ·simpa using c
   ·exact ya h i m
theorem yc {id:Int} {i:It} : ∀ {l:List It},pY id l=some i→i∈l∧i.s.id=id
 | a::l,h=>by
  simp only [pY]at h
  split at h
  ·rename_i c
   cases h
   exact⟨List.mem_cons_self ..,eq_of_beq c⟩
  ·obtain⟨h1,h2⟩:=yc h
   exact⟨List.mem_cons_of_mem _ h1,h2⟩
theorem yd {id:Int} {r:It×aD} : ∀ {l:List Pc},lj id l=some r→∃ f∈l,r.1∈f.flat∧r.1.s.id=id∧r.2=f.name
 | f::l,h=>by
  simp only [lj]at h
  split at h
  ·rename_i i e
   cases h
   obtain⟨h1,h2⟩:=yc e
   exact⟨f,List.mem_cons_self ..,h1,h2,rfl⟩
  ·obtain⟨g,h1,h2⟩:=yd h
   exact⟨g,List.mem_cons_of_mem _ h1,h2⟩
theorem ye {id:Int} : ∀ {l:List Pc},lj id l=none→∀ f∈l,∀ i∈f.flat,i.s.id≠id
 | f::l,h,g,m,i,hi=>by
  simp only [lj]at h
  split at h
  ·cases h
  ·rename_i e
   rcases List.mem_cons.1 m with rfl | m
   ·exact ya e i hi
   ·exact ye h g m i hi
theorem LC {p:Pg} (hb:p.may=true) {id:Int} (h : ∃ v∈p.pre,v.id=id):p.pZ id∈p.pre∧(p.pZ id).id=id:=by
 obtain⟨v,hv,mQ⟩:=h
 have jV:=(oi hb).1
 unfold Pg.pZ
 cases e:lj id p.procs with
 | some r=>
  obtain⟨f,h1,h2,h3,_⟩:=yd e
  refine⟨?_,h3⟩
  simp only [Pg.pre,List.mem_flatten,List.mem_map]
  exact⟨_,⟨f,h1,rfl⟩,by rw [← jV f h1];exact List.mem_map_of_mem h2⟩
 | none=>
  simp only [Pg.pre,List.mem_flatten,List.mem_map]at hv
  obtain⟨l,⟨f,hf,rfl⟩,m⟩:=hv
  rw [← jV f hf,List.mem_map]at m
  obtain⟨i,hi,rfl⟩:=m
  exact absurd mQ (ye e f hf i hi)
theorem ta {k:Int} {x:Int} : ∀ {l:List It},x∈jh k l↔∃ i∈l,(k==0 || i.s.kind==k)=true∧i.s.id=x
 | []=>by simp [jh]
 | a::l=>by
  simp only [jh]
  split
  ·rename_i c
   simp only [List.mem_cons,ta (l:=l),exists_eq_or_imp,c,true_and]
   exact or_congr_left ⟨Eq.symm,Eq.symm⟩
  ·rename_i c
   have c':(k==0 || a.s.kind==k)=false:=by simpa using c
   simp only [List.mem_cons,ta (l:=l),exists_eq_or_imp,c',Bool.false_eq_true,false_and,false_or]
theorem Ak {l:List Int} {n:Int} (h:jA l n≠0):jA l n∈l:=by
 unfold jA at *
 split
 ·rename_i x e;exact List.mem_of_getElem? e
 ·rename_i e;rw [e]at h;exact absurd rfl h
theorem Al {p:Pg} (hb:p.may=true) {k n:Int} (h:jA (jh k p.all) n≠0):p.pZ (jA (jh k p.all) n)∈p.pre∧(p.pZ (jA (jh k p.all) n)).id=jA (jh k p.all) n:=by
 obtain⟨i,h1,_,h2⟩:=ta.1 (Ak h)
 exact LC hb ⟨i.s,by rw [← (oi hb).2];exact List.mem_map_of_mem h1,h2⟩
theorem Ot : ∃ F V,kB.procs[0]? = some F∧F.body[1]? = some V∧V∈kB.pre∧(kB.arity.1==0 && (V.gV kB && V.gH kB))=true∧
 (kB.arity.1==0 && (({V with name:= [118]} : Sm).gV kB && ({V with name:= [118]} : Sm).gH kB))=false:=by
 refine⟨_,_,rfl,rfl, ?_,by decide +kernel,by decide +kernel⟩
 simp [kB,Pg.pre,Sm.dm,Sm.pre]
theorem Rk:DQ.jy:=⟨uX (by decide +kernel) (by decide +kernel),by decide +kernel⟩
theorem Jb:DQ.alias=(1,0):=by decide +kernel
theorem LD (s:St):aI Try.prog pd [] s (.bool true) s:=by
 refine aI.pure ?_ rfl rfl s
 have hS:=fun s=>Rj s
 obtain⟨F,V,hF,hV,hm,e1,e2⟩:=Ot
 have hv:=yY.pre V hm
 have f1:=fun s=>CM yY hv s
 have f2:=fun s=>CM (v:= {V with name:= [118]}) yY hv s
 rw [e1]at f1
 rw [e2]at f2
 have f3:=fun s=>(q8 Rk s).Ik (d:= .agg [.slice .full 0 [], .slice .full 0 []]) (Wk.agg (.cons (Wk.nil _ _ _) (.cons (Wk.nil _ _ _) .nil)))
 simp only [Jb]at f3
 generalize kB=P at *
 simp only [bJ,xH]at f1 f2
 have w1:((1:Int)==1)=true:=rfl
 have w3:Int.toNat 1=1:=rfl
 have w2:((0:Int)==0)=true:=rfl
 unfold S0
 refine aI.go xy rfl fun B Q hB hQ=> ?_
 have⟨hD,hJ,hP,hZ⟩:=b7
 repeat' (first
 | simp only [go_sem,hD,hJ,hP,hZ,xH,hF,QL,hV,bJ,w1,w2,w3,Bool.not_false]
 | (with_reducible refine CU (hS _) ?_)
 | (with_reducible refine CU (f1 _) ?_)
 | (with_reducible refine CU (f2 _) ?_)
 | (with_reducible refine CU (f3 _) ?_)
 | (with_reducible refine aJ hQ ?_;simp only [az,aB,Option.some.injEq,exists_eq_left',go_sem,hD,hJ,hP,hZ];repeat' (first | exact Ok.out | with_reducible refine aR ?_ ?_ | (simp;done))))
end Go.Abs

/-! LawAl2 -/

namespace Go.Abs
set_option maxRecDepth 8000
open Go.Proofs
theorem CP {p:Pg} (h:(p.arity.1==0)=true) (h2:(p.alias.1==0)=true) : ∀ v∈p.pre,(v.kind==4)=true→v.gH p=true:=by
 unfold Pg.alias at h2
 rw [if_pos h]at h2
 intro v hv hk
 have : ∀ l:List Sm,((mj 8 (vd p l)).1==0)=true→∀ v∈l,(v.kind==4)=true→v.gH p=true:=by
  intro l
  induction l with
  | nil=>intro _ v m;cases m
  | cons a l ih=>
   intro h v m hk
   simp only [vd]at h
   split at h
   ·cases h
   ·rename_i c
    rcases List.mem_cons.1 m with rfl | m
    ·simpa [hk]using c
    ·exact ih h v m hk
 exact this _ h2 v hv hk
theorem CQ {p:Pg} : ∀ {l:List Sm},(∀ v∈l,(v.kind==4)=true→v.gH p=true)→vd p l=none
 | [],_=>rfl
 | v::l,h=>by
  simp only [vd]
  rw [if_neg,CQ fun w m=>h w (List.mem_cons_of_mem _ m)]
  intro c
  simp only [Bool.and_eq_true,Bool.not_eq_true']at c
  rw [h v (List.mem_cons_self ..) c.1]at c
  exact absurd c.2 (by simp)
end Go.Abs

/-! AlT -/

namespace Go.Abs
theorem CR {p:Pg} {f:Pc} {v:Sm} (hf:f∈p.procs) (hv:v∈Sm.dm f.body):v∈p.pre:=by
 simp only [Pg.pre,List.mem_flatten,List.mem_map]
 exact⟨_,⟨f,hf,rfl⟩,hv⟩
theorem vf (g:Sm→Sm) : ∀ l:List Sm,(∀ v∈l,(g v).kind=v.kind∧(g v).proc=v.proc)→gh (l.map (Sm.bH g))=gh l
 | [],_=>rfl
 | v::l,h=>by
  obtain⟨h1,h2⟩:=h v (List.mem_cons_self ..)
  simp only [List.map_cons,gh,vf g l fun w m=>h w (List.mem_cons_of_mem _ m)]
  rw [jk]
  dsimp only
  rw [h1,h2]
theorem DB (g:Sm→Sm) {p:Pg} (h : ∀ v∈p.pre,(g v).kind=v.kind∧(g v).proc=v.proc) (x:aD):qq (p.bH g) x=qq p x:=by
 unfold qq
 rw [oZ]
 cases e:p.find x with
 | none=>rfl
 | some f=>
  show gv (gh (Sm.dm (Sm.ez g f.body)))=_
  rw [lJ,vf g _ fun v m=>h v (CR (lG e).1 m)]
  rfl
theorem Jc (g:Sm→Sm) {p:Pg} (h : ∀ v∈p.pre,(g v).kind=v.kind∧(g v).proc=v.proc) (a:aD):(p.bH g).work a=p.work a:=by
 have : ∀ (n i:Nat) (out:List aD),nG (p.bH g) n i out=nG p n i out:=by
  intro n
  induction n with
  | zero=>intro i out;rfl
  | succ n ih=>
   intro i out
   simp only [nG,DB g h,ih]
 unfold Pg.work
 rw [this,show(p.bH g).procs.length=p.procs.length from List.length_map ..]
theorem vg {x:aD} : ∀ {l:List Sm},x∈nH l↔∃ v∈l,x∈v.said
 | []=>by simp [nH]
 | v::l=>by simp [nH,vg (l:=l)]
theorem Gt (g:Sm→Sm) {p:Pg} (kQ:(p.scope.1==0)=true) (h : ∀ v∈p.pre,(g v).kind=v.kind∧(g v).proc=v.proc) (hs : ∀ v∈p.pre,∀ x∈(v.bH g).said,x∈v.said) (a:aD) : ∀ x∈(p.bH g).gT a,x∈p.gT a:=by
 intro x m
 cases e:(p.bH g).pA a with
 | none=>unfold Pg.gT at m;rw [e]at m;cases m
 | some f'=>
  obtain⟨Rl,L5⟩:=u9 e
  rw [oZ]at L5
  obtain⟨f,hf,rfl⟩:=Option.map_eq_some_iff.1 L5
  obtain⟨⟨n,hn,hx⟩,hg⟩:=(Ae e).1 m
  rw [Ae (f:=f) (by unfold Pg.pA;rw [if_pos kQ];exact hf)]
  rw [Jc g h]at hn
  refine⟨⟨n,hn, ?_⟩,hg⟩
  unfold lI at hx ⊢
  rw [oZ]at hx
  cases e2:p.find n with
  | none=>rw [e2]at hx;exact hx
  | some q=>
   rw [e2]at hx
   have hx:x∈nH (Sm.dm (Sm.ez g q.body)):=hx
   rw [lJ,vg]at hx
   obtain⟨w,hw,hx⟩:=hx
   obtain⟨v,hv,rfl⟩:=List.mem_map.1 hw
   exact vg.2 ⟨v,hv,hs v (CR (lG e2).1 hv) x hx⟩
theorem Jd (g:Sm→Sm) {p:Pg} {v w:Sm} (h1:w.kind=v.kind) (h2:w.proc=v.proc) (h3:w.args=v.args):w.gV (p.bH g)=v.gV p:=by
 unfold Sm.gV
 rw [h1,h2,h3,oZ]
 cases p.find v.proc <;> rfl
theorem LF {a b:List aD} (h : ∀ x∈a,x∈b) {x:aD} (hx:dY b x=false):dY a x=false:=by
 cases e:dY a x with
 | false=>rfl
 | true=>rw [(hO _ _).2 (h x ((hO _ _).1 e))]at hx;cases hx
theorem rP {nm M4:aD} {T T':List aD} (hT : ∀ x∈T',x∈T) : ∀ {l:List Ar} {seen:List aD},(∀ a∈l,a.ref=true→a.name=M4→a.name=nm)→gW nm T seen l=true→gW M4 T' seen l=true
 | [],_,_,_=>rfl
 | a::l,seen,hn,h=>by
  have ih:=fun seen h=>rP hT (l:=l) (seen:=seen) (fun b m=>hn b (List.mem_cons_of_mem _ m)) h
  simp only [gW]at h ⊢
  split
  ·rename_i hr
   rw [if_pos hr]at h
   split at h
   ·cases h
   ·rename_i c
    simp only [Bool.or_eq_true,not_or,Bool.not_eq_true]at c
    have c2:(a.name==M4)=false:=by
     cases e:(a.name==M4)with
     | false=>rfl
     | true=>have:=hn a (List.mem_cons_self ..) hr (eq_of_beq e);rw [this]at c;simp at c
    rw [c.1,c2,LF hT c.2.2]
    exact ih _ h
  ·rename_i hr
   rw [if_neg hr]at h
   exact ih _ h
theorem yf {T:List aD} {a:Ar} : ∀ {l:List Ar} {seen:List aD},a∈l→a.ref=true→gW a.name T seen l=false
 | b::l,seen,m,hr=>by
  simp only [gW]
  rcases List.mem_cons.1 m with rfl | m
  ·simp [hr]
  ·have ih:=fun seen=>yf (T:=T) (l:=l) (seen:=seen) m hr
   split
   ·split
    ·rfl
    ·exact ih _
   ·exact ih _
theorem Am {p:Pg} {id:Int} : ∀ {l:List Sm},(∀ v∈l,(v.kind==4)=true→v.id≠id→v.gH p=true)→(∃ w∈l,w.id=id∧(w.kind==4)=true∧w.gH p=false)→∃ w,vd p l=some w∧w.id=id
 | v::l,h,hw=>by
  simp only [vd]
  split
  ·rename_i c
   refine⟨v,rfl,Decidable.byContradiction fun dP=> ?_⟩
   simp only [Bool.and_eq_true,Bool.not_eq_true']at c
   rw [h v (List.mem_cons_self ..) c.1 dP]at c
   simp at c
  ·rename_i c
   refine Am (fun w m=>h w (List.mem_cons_of_mem _ m)) ?_
   obtain⟨w,m,h1,h2,h3⟩:=hw
   rcases List.mem_cons.1 m with rfl | m
   ·rw [h2,h3]at c;exact absurd rfl c
   ·exact⟨w,m,h1,h2,h3⟩
theorem rQ {x:aD} : ∀ (l:List Ar) {o o':List aD},(∀ y∈o',y∈o)→x∈Ar.said o' l→x∈Ar.said o l
 | [],o,o',h,m=>h x m
 | a::l,o,o',h,m=>by
  simp only [Ar.said]at m ⊢
  refine rQ l (fun y hy=> ?_) m
  split at hy
  ·rename_i hr
   rw [if_pos hr]
   simp only [List.mem_append]at hy ⊢
   rcases hy with (hy | hy) | hy
   ·exact .inl (.inl (h y hy))
   ·exact .inl (.inr hy)
   ·exact .inr hy
  ·rename_i hr
   rw [if_neg hr]
   simp only [List.mem_append]at hy ⊢
   rcases hy with hy | hy
   ·exact .inl (h y hy)
   ·exact .inr hy
theorem tD {x:aD} : ∀ (l:List Ar) {o:List aD},x∈o→x∈Ar.said o l
 | [],_,h=>h
 | a::l,o,h=>by
  simp only [Ar.said]
  refine tD l ?_
  split <;> simp [h]
theorem wc {a:Ar} : ∀ (l:List Ar) {o:List aD},a∈l→a.ref=true→a.name∈Ar.said o l
 | b::l,o,m,hr=>by
  simp only [Ar.said]
  rcases List.mem_cons.1 m with rfl | m
  ·refine tD l ?_
   rw [if_pos hr];simp
  ·exact wc l m hr
structure Ou (p:Pg) (V:Sm) (nm:aD) (q:Pg):Prop where
 may:q.may=true
 scope:(q.scope.1==0)=true
 arity:(q.arity.1==0)=true
 ok:q.jy
 rest : ∀ v∈q.pre,(v.kind==4)=true→v.id≠V.id→v.gH q=true
 here : ∃ v∈q.pre,v.id=V.id∧v.name=nm∧v.kind=V.kind∧v.args=V.args∧v.proc=V.proc
 S8 : ∀ a x,x∈q.gT a→x∈p.gT a
 uniq : ∀ v∈q.pre,v.id=V.id→v.name=nm∧v.kind=V.kind∧v.args=V.args∧v.proc=V.proc
theorem renamed {p:Pg} (ho:p.jy) (h1:(p.arity.1==0)=true) (h2:(p.alias.1==0)=true) {V:Sm} (hV:V∈p.pre) (hk:V.kind=4) {nm:aD} (hn:nm = []∨isName nm=true) (hs : ∀ x∈({V with name:=nm} : Sm).said,x∈V.said) :
 Ou p V nm (p.bH (c6 {V with name:=nm})):=by
 obtain⟨kQ,gY⟩:=oj h1
 have hb:=oY kQ
 have iP:=yW hb
 have kp : ∀ v∈p.pre,v.id=V.id→v=V:=by
  intro v hv e
  obtain⟨i,hi⟩:=List.getElem?_of_mem hv
  obtain⟨j,hj⟩:=List.getElem?_of_mem hV
  have k1:=xU hb hi
  have k2:=xU hb hj
  have:i=j:=by omega
  subst this
  rw [hi]at hj
  exact Option.some.inj hj
 have hg : ∀ v∈p.pre,(v.id≠V.id∧v.bH (c6 {V with name:=nm}) = {v with aY:=Sm.ez (c6 {V with name:=nm}) v.aY,aM:=Sm.ez (c6 {V with name:=nm}) v.aM})∨
  (v=V∧v.bH (c6 {V with name:=nm}) = {V with name:=nm,aY:=Sm.ez (c6 {V with name:=nm}) V.aY,aM:=Sm.ez (c6 {V with name:=nm}) V.aM}):=by
  intro v hv
  rw [jk]
  unfold c6
  by_cases e:v.id=V.id
  ·have:=kp v hv e
   subst this
   refine .inr ⟨rfl, ?_⟩
   rw [if_pos (by simp)]
  ·refine .inl ⟨e, ?_⟩
   rw [if_neg (by simpa using e)]
 have qt : ∀ v∈p.pre,(c6 {V with name:=nm} v).id=v.id∧(c6 {V with name:=nm} v).kind=v.kind∧(c6 {V with name:=nm} v).proc=v.proc∧(c6 {V with name:=nm} v).args=v.args∧(c6 {V with name:=nm} v).labels=v.labels∧(c6 {V with name:=nm} v).x=v.x∧(c6 {V with name:=nm} v).has=v.has:=by
  intro v hv
  unfold c6
  split
  ·rename_i e
   have:=kp v hv (by simpa using e)
   subst this
   exact⟨rfl,rfl,rfl,rfl,rfl,rfl,rfl⟩
  ·exact⟨rfl,rfl,rfl,rfl,rfl,rfl,rfl⟩
 have hlen : ∀ l:List Sm,(Sm.ez (c6 {V with name:=nm}) l).length=l.length:=fun l=>by rw [Af,List.length_map]
 have AU : ∀ v∈p.pre,(v.bH (c6 {V with name:=nm})).one=true:=by
  intro v hv
  have:=iP v hv
  rcases hg v hv with ⟨_,e⟩ | ⟨rfl,e⟩
  ·rw [e]
   unfold Sm.one Sm.yO Sm.hasName Sm.oT at this ⊢
   dsimp only
   rw [hlen,hlen]
   exact this
  ·rw [e]
   unfold Sm.one Sm.yO Sm.hasName Sm.oT at this ⊢
   dsimp only
   rw [hlen,hlen]
   rw [hk]at this ⊢
   rcases hn with rfl | hn
   ·split at this
    ·cases this
    rename_i c1
    rw [if_neg c1]
    split at this
    ·cases this
    rw [if_neg (by decide)]
    exact this
   ·split at this
    ·cases this
    rename_i c1
    rw [if_neg c1]
    split at this
    ·cases this
    rw [if_neg (by simp [hn])]
    exact this
 have M5 : ∀ v∈p.pre,∀ x∈(v.bH (c6 {V with name:=nm})).said,x∈v.said:=by
  intro v hv x hx
  rcases hg v hv with ⟨_,e⟩ | ⟨rfl,e⟩
  ·rw [e]at hx;exact hx
  ·rw [e]at hx;exact hs x hx
 have LG:=LB (c6 {V with name:=nm}) (fun v hv=>⟨(qt v hv).1,AU v hv⟩) hb
 have Rl:=Gp (c6 {V with name:=nm}) LG kQ fun f hf v hv Cu=>by
  have Rm:=CR hf hv
  unfold Sm.known at Cu ⊢
  simp only [Bool.and_eq_true,Bool.not_eq_true',List.any_eq_false,Bool.not_eq_true,beq_eq_false_iff_ne,ne_eq]at Cu ⊢
  have e1:(v.bH (c6 {V with name:=nm})).kind=v.kind:=by rw [jk];exact(qt v Rm).2.1
  have e2:(v.bH (c6 {V with name:=nm})).proc=v.proc:=by rw [jk];exact(qt v Rm).2.2.1
  rw [e1,e2]
  exact⟨fun x hx=>Cu.1 x (M5 v Rm x hx),Cu.2⟩
 have Rn:(((p.bH (c6 {V with name:=nm})).scope).1==0)=true:=by rw [Rl];rfl
 have uU:=DA (c6 {V with name:=nm}) p
 have hkp : ∀ v∈p.pre,(c6 {V with name:=nm} v).kind=v.kind∧(c6 {V with name:=nm} v).proc=v.proc:=fun v hv=>⟨(qt v hv).2.1,(qt v hv).2.2.1⟩
 have har:=I4 Rn fun w hw vb=>by
  rw [uU]at hw
  obtain⟨v,hv,rfl⟩:=List.mem_map.1 hw
  have e1:(v.bH (c6 {V with name:=nm})).kind=v.kind:=by rw [jk];exact(qt v hv).2.1
  have e2:(v.bH (c6 {V with name:=nm})).proc=v.proc:=by rw [jk];exact(qt v hv).2.2.1
  have e3:(v.bH (c6 {V with name:=nm})).args=v.args:=by rw [jk];exact(qt v hv).2.2.2.1
  rw [Jd _ e1 e2 e3]
  exact gY v hv (by rw [← e1];exact vb)
 have dC:(p.bH (c6 {V with name:=nm})).size=p.size:=Gq _ fun v hv=>by
  rw [(qt v hv).2.2.2.1,(qt v hv).2.2.2.2.1,(qt v hv).2.2.2.2.2.1]
 have sr:=fun a=>Gt (c6 {V with name:=nm}) kQ hkp M5 a
 refine⟨LG,Rn,by rw [har];rfl,⟨uX LG (by rw [dC];have:=ho.sz;omega),by rw [dC];exact ho.sz⟩,fun w hw vb dP=> ?_, ?_,fun a x hx=>sr a x hx,fun w hw mQ=> ?_⟩
 ·rw [uU]at hw
  obtain⟨v,hv,rfl⟩:=List.mem_map.1 hw
  rcases hg v hv with ⟨_,e⟩ | ⟨rfl,e⟩
  ·rw [e]at vb ⊢
   have:=CP h1 h2 v hv vb
   unfold Sm.gH at this ⊢
   exact rP (sr v.proc) (fun _ _ _ e=>e) this
  ·rw [e]at dP;exact absurd rfl dP
 ·refine⟨_,by rw [uU];exact List.mem_map_of_mem hV, ?_⟩
  rcases hg V hV with ⟨h,_⟩ | ⟨_,e⟩
  ·exact absurd rfl h
  ·rw [e];exact⟨rfl,rfl,rfl,rfl,rfl⟩
 ·rw [uU]at hw
  obtain⟨v,hv,rfl⟩:=List.mem_map.1 hw
  rcases hg v hv with ⟨h,e⟩ | ⟨rfl,e⟩
  ·rw [e]at mQ;exact absurd mQ h
  ·rw [e];exact⟨rfl,rfl,rfl,rfl⟩
theorem Ov {V:Sm} (hk:V.kind=4) : ∀ x∈({V with name:= []} : Sm).said,x∈V.said:=by
 intro x hx
 unfold Sm.said at hx ⊢
 refine rQ _ (fun y hy=> ?_) hx
 simp only [List.mem_append]at hy ⊢
 rcases hy with hy | hy
 ·simp [Sm.nC]at hy
 ·exact .inr hy
theorem LH {V:Sm} {a:Ar} (hk:V.kind=4) (ha:a∈V.args) (hr:a.ref=true) : ∀ x∈({V with name:=a.name} : Sm).said,x∈V.said:=by
 intro x hx
 by_cases e:x=a.name
 ·subst e;exact wc V.args ha hr
 ·unfold Sm.said at hx
  have:x∈Ar.said V.x.names V.args:=by
   have key : ∀ (l:List Ar) (o o':List aD),(∀ y∈o',y∈o∨y=a.name)→x∈Ar.said o' l→x∈Ar.said o l:=by
    intro l
    induction l with
    | nil=>intro o o' h m;exact(h x m).resolve_right e
    | cons b l ih=>
     intro o o' h m
     simp only [Ar.said]at m ⊢
     refine ih _ _ (fun y hy=> ?_) m
     split at hy
     ·rename_i hr
      rw [if_pos hr]
      simp only [List.mem_append]at hy ⊢
      rcases hy with (hy | hy) | hy
      ·exact(h y hy).imp (fun h=> .inl (.inl h)) id
      ·exact .inl (.inl (.inr hy))
      ·exact .inl (.inr hy)
     ·rename_i hr
      rw [if_neg hr]
      simp only [List.mem_append]at hy ⊢
      rcases hy with hy | hy
      ·exact(h y hy).imp .inl id
      ·exact .inl (.inr hy)
   refine key _ _ _ (fun y hy=> ?_) hx
   simp only [List.mem_append]at hy
   rcases hy with hy | hy
   ·unfold Sm.nC at hy
    split at hy
    ·exact .inr (by simpa using hy)
    ·cases hy
   ·exact .inl hy
  unfold Sm.said
  exact rQ _ (fun y hy=>List.mem_append.2 (.inr hy)) this
theorem LI {p:Pg} (ho:p.jy) (h1:(p.arity.1==0)=true) (h2:(p.alias.1==0)=true) {V:Sm} (hV:V∈p.pre) (hk:V.kind=4) :
 (p.bH (c6 {V with name:= []})).jy∧((p.bH (c6 {V with name:= []})).alias.1==0)=true:=by
 have r:=renamed ho h1 h2 hV hk (.inl rfl) (Ov hk)
 refine⟨r.ok, ?_⟩
 unfold Pg.alias
 rw [if_pos r.arity,CQ]
 ·rfl
 ·intro v hv vb
  by_cases e:v.id=V.id
  ·obtain⟨e1,e2,e3,e4⟩:=r.uniq v hv e
   have:=CP h1 h2 V hV (by rw [hk];rfl)
   unfold Sm.gH at this ⊢
   rw [e1,e3,e4]
   exact rP (r.S8 V.proc) (fun a m hr ea=>absurd ea (Ly (yW (oY (oj h1).1) V hV) a m hr)) this
  ·exact r.rest v hv vb e
theorem Je {p:Pg} (ho:p.jy) (h1:(p.arity.1==0)=true) (h2:(p.alias.1==0)=true) {V:Sm} (hV:V∈p.pre) (hk:V.kind=4) {a:Ar} (ha:a∈V.args) (hr:a.ref=true) :
 (p.bH (c6 {V with name:=a.name})).jy∧(p.bH (c6 {V with name:=a.name})).alias=(8,V.id):=by
 have iP:=yW (oY (oj h1).1) V hV
 have Ix:isName a.name=true:=by
  have:=yX (CK iP) a ha
  unfold Ar.may at this
  rw [if_pos hr]at this
  exact(Bool.and_eq_true_iff.1 this).1
 have r:=renamed ho h1 h2 hV hk (.inr Ix) (LH hk ha hr)
 refine⟨r.ok, ?_⟩
 unfold Pg.alias
 rw [if_pos r.arity]
 obtain⟨v,hv,e0,e1,e2,e3,e4⟩:=r.here
 obtain⟨w,hw,mQ⟩:=Am r.rest ⟨v,hv,e0,by rw [e2,hk];rfl,by unfold Sm.gH;rw [e1,e3];exact yf ha hr⟩
 rw [hw]
 show(8,w.id)=_
 rw [mQ]
end Go.Abs

/-! Cp1 -/

namespace Go.Abs
set_option maxRecDepth 8000
open Go.Proofs
theorem CS {size bytes:Nat} {rows:List (List D)} (h:rows≠ []) (hl:rows.length*(bytes+1)≤bt) {z:Nat} {g:Tag} (o:List (List D)) (T:List (Option Nat)) :
 jC size bytes (.slice .full z []) (.slice g size rows) ⟨o,T⟩=some (.slice (.tok T.length) size rows,⟨o,T++ [some rows.length]⟩):=by
 cases rows with
 | nil=>exact absurd rfl h
 | cons x r=>simp only [List.length_cons]at hl;simp [jC,hl]
theorem CT {size bytes z z':Nat} {g:Tag} (o:List (List D)) (T:List (Option Nat)) :
 jC size bytes (.slice .full z []) (.slice g z' []) ⟨o,T⟩=some (.slice .full z [],⟨o,T⟩):=by simp [jC,bt]
theorem vC {l:List aD} (hl:l.length≤10000000) (s:St):aI Try.prog j5 [.slice .shared 1 (l.map encStr)] s (.slice .shared 1 (l.map encStr)) s:=by
 refine aI.pure ?_ (by simp [D.bI,D.ok,fc,Tag.ok]) (by rw [D.ok,fc];rfl) s
 unfold S0
 cases l with
 | nil=>
  simp only [List.map_nil]
  have ha:=fun o T=>CT (size:=1) (bytes:=16) (z:=0) (z':=1) (g:= .shared) o T
  refine aI.go sh rfl fun B Q hB hQ=> ?_
  have⟨hD,hJ,hP,hZ⟩:=b7
  repeat' (first
 | simp only [go_sem,hD,hJ,hP,hZ,ha]
 | (with_reducible first | refine cm fun hc=> ?_ | refine cq fun hc=> ?_ | refine cr (fun hc=> ?_) fun hc=> ?_) <;> (try simp only [hc,bs, ↓reduceIte]at h) <;> try simp only [hc]
 | (with_reducible refine aJ hQ ?_;(try cases h);simp only [az,aB,cY,cZ,go_sem,hD,hJ,hP,hZ,ha];try exact iD)
 | (cases h;done))
 | cons x l=>
  have ha:=fun o T=>CS (size:=1) (bytes:=16) (rows:=(x::l).map encStr) (by simp) (by simp only [List.length_map];unfold bt;omega) (z:=0) (g:= .shared) o T
  have hf:=B1 0 0 (x::l)
  generalize (x::l).map encStr=R at *
  refine aI.go sh rfl fun B Q hB hQ=> ?_
  have⟨hD,hJ,hP,hZ⟩:=b7
  repeat' (first
 | simp only [go_sem,hD,hJ,hP,hZ,ha,hf]
 | (with_reducible first | refine cm fun hc=> ?_ | refine cq fun hc=> ?_ | refine cr (fun hc=> ?_) fun hc=> ?_) <;> (try simp only [hc,bs, ↓reduceIte]at h) <;> try simp only [hc]
 | (with_reducible refine aJ hQ ?_;(try cases h);simp only [az,aB,cY,cZ,go_sem,hD,hJ,hP,hZ,ha,hf];try exact iD)
 | (cases h;done))
theorem Gu : ∀ n,n<1073741824→∀ x:Ex,x.size≤n→aI Try.prog ga [.agg (bx x)] S0 (.agg (bx x)) S0:=by
 intro n
 induction n with
 | zero=>rintro _ ⟨op,m,name,kids⟩ h;simp only [Ex.size]at h;omega
 | succ n ihn=>
 rintro hn ⟨op,m,name,kids⟩ hx
 have hk : ∀ y∈kids,∀ s,aI Try.prog ga [.agg (bx y)] s (.agg (bx y)) s:=fun y hy s=>
  (ihn (by omega) y (by simp only [Ex.size]at hx;have:=Ex.bW hy;omega)).pure (by simp [D.bI,D.ok,jg]) (by simp [D.ok,jg]) s
 have hlen:kids.length<1073741824:=by simp only [Ex.size]at hx;have:=Ex.cH kids;omega
 unfold S0
 refine aI.go vJ rfl fun B Q hB hQ=> ?_
 have⟨hD,hJ,hP,hZ⟩:=b7
 repeat' (first
 | simp only [go_sem,hD,hJ,hP,hZ]
 | (with_reducible first | refine cm fun hc=> ?_ | refine cq fun hc=> ?_ | refine cr (fun hc=> ?_) fun hc=> ?_) <;> (try simp only [hc,bs, ↓reduceIte]at h) <;> try simp only [hc]
 | (with_reducible refine aJ hQ ?_;exact ik)
 | (cases h;done))
 refine bq.yD 2 3 4 rfl rfl ?_
 simp only [go_sem,hD,hJ,hP,hZ]
 refine dG 3 1 (bq.ind (ι:=List Ex×Nat×List Ex) (fun i=>kids.drop i.2.1=i.1∧i.2.1=i.2.2.length∧i.2.2++i.1=kids) (fun i=>i.1.length)
  (fun i=> [(1, .ptr 0 0),(2, .ptr 1 0),(3, .ptr 2 0),(14, .int .i64 (kids.length:Int)),(15, .int .i64 (i.2.1:Int))])
  (fun i=>⟨[bx ⟨op,m,name,kids⟩,bx mM,[.int .i64 op, .int .i64 m, .str name, .slice (.tok 0) 4 (i.2.2.map bx)]],[some i.2.1]⟩) ?_ (kids,0,[]) ⟨rfl,rfl,rfl⟩)
 rintro⟨rest,k,acc⟩ ⟨h1,h2,h3⟩ IH
 dsimp only at h1 h2 h3
 subst h2
 cases rest with
 | nil=>
  have hD:=drop_nil h1
  simp only [List.append_nil]at h3
  subst h3
  repeat' (first
 | simp only [go_sem,hD,hJ,hP,hZ]
 | (with_reducible first | refine cm fun hc=> ?_ | refine cq fun hc=> ?_ | refine cr (fun hc=> ?_) fun hc=> ?_) <;> (try simp only [hc,bs, ↓reduceIte]at h) <;> try simp only [hc]
 | (with_reducible refine aJ hQ ?_;exact ik)
 | (cases h;done))
 | cons y rest=>
  obtain⟨hJ,g2,hD,g4⟩:=drop_cons h1
  have gU:(acc.length+1)*57≤bt:=by simp only [bt];omega
  have hy:=hk y (List.mem_of_getElem? hJ)
  have w1:IntKind.wrap .i64 ((acc.length:Int)+1)=((acc.length+1:Nat):Int):=by rw [dk] <;> omega
  repeat' (first
 | simp only [go_sem,hD,hJ,hP,hZ,gU,w1]
 | (with_reducible refine CU (hy _) ?_)
 | (with_reducible first | refine cm fun hc=> ?_ | refine cq fun hc=> ?_ | refine cr (fun hc=> ?_) fun hc=> ?_) <;> (try simp only [hc,bs, ↓reduceIte]at h) <;> try simp only [hc]
 | (with_reducible refine aJ hQ ?_;(try cases h);simp only [az,aB,cY,cZ,go_sem,hD,hJ,hP,hZ,gU,w1];try exact iD)
 | (cases h;done))
  refine dG 3 1 (IH (rest,acc.length+1,acc++ [y]) ⟨g2,by simp,by rw [← h3];simp⟩ (Nat.lt_succ_self _))
theorem yg {x:Ex} (h:x.size<1073741824) (s:St):aI Try.prog ga [.agg (bx x)] s (.agg (bx x)) s:=
 (Gu x.size h x (Nat.le_refl _)).pure (by simp [D.bI,D.ok,jg]) (by simp [D.ok,jg]) s
def Sm.bare (v:Sm):Sm:= {v with aY:= [],aM:= []}
theorem An {v:Sm} (hv:v.labels.length+v.x.size+Ar.aO v.args<10000000) (s:St):aI Try.prog lO [.agg (a7 v)] s (.agg (a7 v.bare)) s:=by
 refine aI.pure ?_ (by simp [D.bI,D.ok,kq]) (by simp [D.ok,kq]) s
 obtain⟨id,kind,labels,name,proc,x,has,args,aY,aM⟩:=v
 dsimp only at hv
 have tu:=Ar.cH args
 have hx:=fun s=>yg (x:=x) (by omega) s
 simp only [fq]at hx
 have hL:=fun s=>vC (l:=labels) (by omega) s
 unfold Sm.bare
 unfold S0
 refine aI.go wH rfl fun B Q hB hQ=> ?_
 have⟨hD,hJ,hP,hZ⟩:=b7
 repeat' (first
 | simp only [go_sem,hD,hJ,hP,hZ]
 | (with_reducible refine CU (hL _) ?_)
 | (with_reducible refine CU (hx _) ?_)
 | (with_reducible first | refine cm fun hc=> ?_ | refine cq fun hc=> ?_ | refine cr (fun hc=> ?_) fun hc=> ?_) <;> (try simp only [hc,bs, ↓reduceIte]at h) <;> try simp only [hc]
 | (with_reducible refine aJ hQ ?_;exact ik)
 | (cases h;done))
 refine bq.yD 2 10 6 rfl rfl ?_
 simp only [go_sem,hD,hJ,hP,hZ]
 refine dG 3 1 (bq.ind (ι:=List Ar×Nat×List Ar) (fun i=>args.drop i.2.1=i.1∧i.2.1=i.2.2.length∧i.2.2++i.1=args) (fun i=>i.1.length)
  (fun i=> [(1, .ptr 0 0),(2, .ptr 1 0),(3, .ptr 2 0),(24, .slice .shared 6 (args.map dh)),(25, .int .i64 (args.length:Int)),(26, .int .i64 (i.2.1:Int))])
  (fun i=>⟨[a7 ⟨id,kind,labels,name,proc,x,has,args,aY,aM⟩,a7 BX,[.int .i64 id, .int .i64 kind, .slice .shared 1 (labels.map encStr), .str name, .str proc, .int .i64 x.op, .int .i64 x.n, .str x.name, .slice .shared 4 (x.kids.map bx), .bool has, .slice (.tok 0) 6 (i.2.2.map dh), .slice .full 0 [], .slice .full 0 []]],[some i.2.1]⟩) ?_ (args,0,[]) ⟨rfl,rfl,rfl⟩)
 rintro⟨Gv,ka,Gw⟩ ⟨j1,j2,j3⟩ IHa
 dsimp only at j1 j2 j3
 subst j2
 cases Gv with
 | nil=>
  have hD:=drop_nil j1
  simp only [List.append_nil]at j3
  subst j3
  repeat' (first
 | simp only [go_sem,hD,hJ,hP,hZ,bJ,List.map_nil]
 | (with_reducible first | refine cm fun hc=> ?_ | refine cq fun hc=> ?_ | refine cr (fun hc=> ?_) fun hc=> ?_) <;> (try simp only [hc,bs, ↓reduceIte]at h) <;> try simp only [hc]
 | (with_reducible refine aJ hQ ?_;(try cases h);simp only [az,aB,cY,cZ,go_sem,hD,hJ,hP,hZ,bJ,List.map_nil];try exact iD)
 | (cases h;done))
 | cons c Gv=>
  obtain⟨hJ,g2,hD,g4⟩:=drop_cons j1
  have ha:c.x.size<1073741824:=by have:=Ar.bW (List.mem_of_getElem? hJ);omega
  have zq:Gw.length<4611686018427387904:=by omega
  have Jf:(Gw.length+1)*81≤bt:=by simp only [bt];omega
  have Ub:=fun s=>yg ha s
  simp only [fq]at Ub
  obtain⟨WB,S9,ax⟩:=c
  repeat' (first
 | simp only [go_sem,hD,hJ,hP,hZ,Jf]
 | (with_reducible refine CU (Ub _) ?_)
 | (with_reducible first | refine cm fun hc=> ?_ | refine cq fun hc=> ?_ | refine cr (fun hc=> ?_) fun hc=> ?_) <;> (try simp only [hc,bs, ↓reduceIte]at h) <;> try simp only [hc]
 | (with_reducible refine aJ hQ ?_;(try cases h);simp only [az,aB,cY,cZ,go_sem,hD,hJ,hP,hZ,Jf];try exact iD)
 | (cases h;done))
  refine dt 3 1 ?_ ?_ (IHa (Gv,Gw.length+1,Gw++ [⟨WB,S9,ax⟩]) ⟨g2,by simp,by rw [← j3];simp⟩ (Nat.lt_succ_self _))
  ·(simp only [go_sem,hD,hJ,hP,hZ,aF zq];try exact br)
  ·(simp only [go_sem,hD,hJ,hP,hZ,aF zq];try exact br)
end Go.Abs

/-! Cp2 -/

namespace Go.Abs
set_option maxRecDepth 8000
open Go.Proofs
abbrev Sm.aew (t:Sm) (l:List Sm):List Sm:=Sm.ez (c6 t) l
abbrev Pg.put (p:Pg) (t:Sm):Pg:=p.bH (c6 t)
def Sm.nL (v:Sm):Nat:=v.labels.length+v.x.size+Ar.aO v.args
abbrev M6 (t:Sm) (N:Nat):Prop:=∀ l:List Sm,Sm.aO l<N→∀ s:St,aI Try.prog ku [.slice .shared 13 (l.map a7), .agg (a7 t)] s (.slice .shared 13 ((Sm.ez (c6 t) l).map a7)) s
theorem LJ (t:Sm) (ht:t.nL<10000000) {N:Nat} (hN:N<10000000) (ih:M6 t N) (l:List Sm) (hl:Sm.aO l<N+1) :
 aI Try.prog ku [.slice .shared 13 (l.map a7), .agg (a7 t)] S0 (.slice .shared 13 ((Sm.ez (c6 t) l).map a7)) S0:=by
 have hlen:l.length<10000001:=by have:=Sm.cH l;omega
 have Ro:=fun s=>An (v:=t) ht s
 have TY:a7 t.bare=_:=bJ t.bare
 simp only [TY,Sm.bare,List.map_nil]at Ro
 generalize hR:Sm.ez (c6 t) l=R
 unfold S0
 refine aI.go Ca rfl fun B Q hB hQ=> ?_
 have⟨hD,hJ,hP,hZ⟩:=b7
 repeat' (first
 | simp only [go_sem,hD,hJ,hP,hZ]
 | (with_reducible first | refine cm fun hc=> ?_ | refine cq fun hc=> ?_ | refine cr (fun hc=> ?_) fun hc=> ?_) <;> (try simp only [hc,bs, ↓reduceIte]at h) <;> try simp only [hc]
 | (with_reducible refine aJ hQ ?_;exact ik)
 | (cases h;done))
 refine bq.o8 5 13 rfl ?_
 simp only [go_sem,hD,hJ,hP,hZ]
 refine dG 1 1 (bq.ind (ι:=List Sm×Nat×List Sm) (fun i=>l.drop i.2.1=i.1∧i.2.1=i.2.2.length∧i.2.2++Sm.ez (c6 t) i.1=R) (fun i=>i.1.length)
  (fun i=> [(3, .ptr 0 0),(5, .slice (.tok 0) 13 (i.2.2.map a7)),(9, .slice .shared 13 (l.map a7)),(10, .int .i64 (l.length:Int)),(11, .int .i64 (i.2.1:Int))])
  (fun i=>⟨[a7 t],[some i.2.1]⟩) ?_ (l,0,[]) ⟨rfl,rfl,hR⟩)
 rintro⟨rest,k,acc⟩ ⟨h1,h2,h3⟩ IH
 dsimp only at h1 h2 h3
 subst h2
 cases rest with
 | nil=>
  have hD:=drop_nil h1
  simp only [Sm.ez,List.append_nil]at h3
  subst h3
  repeat' (first
 | simp only [go_sem,hD,hJ,hP,hZ]
 | (with_reducible first | refine cm fun hc=> ?_ | refine cq fun hc=> ?_ | refine cr (fun hc=> ?_) fun hc=> ?_) <;> (try simp only [hc,bs, ↓reduceIte]at h) <;> try simp only [hc]
 | (with_reducible refine aJ hQ ?_;exact ik)
 | (cases h;done))
 | cons y rest=>
  obtain⟨hJ,g2,hD,g4⟩:=drop_cons h1
  have hk:acc.length<4611686018427387904:=by omega
  have dC:y.size≤N:=by have:=Sm.bW (List.mem_of_getElem? hJ);omega
  obtain⟨id,kind,labels,name,proc,x,has,args,aY,aM⟩:=y
  simp only [Sm.size]at dC
  have gU:(acc.length+1)*209≤bt:=by simp only [bt];omega
  have Ii:=fun s=>An (v:=⟨id,kind,labels,name,proc,x,has,args,aY,aM⟩) (by dsimp only;omega) s
  simp only [Sm.bare,bJ,List.map_nil]at Ii
  have c1:=ih aY (by omega)
  have c2:=ih aM (by omega)
  simp only [Sm.ez]at h3
  obtain⟨Y,hY⟩ : ∃ Y,Sm.bH (c6 t) ⟨id,kind,labels,name,proc,x,has,args,aY,aM⟩=Y:=⟨_,rfl⟩
  rw [hY]at h3
  rw [jk]at hY
  unfold c6 at hY
  obtain⟨T,hT⟩ : ∃ T,Sm.ez (c6 t) aY=T:=⟨_,rfl⟩
  obtain⟨E,hE⟩ : ∃ E,Sm.ez (c6 t) aM=E:=⟨_,rfl⟩
  unfold c6 at hT hE
  simp only [hT,hE]at hY
  unfold c6 at c1 c2
  rw [hT]at c1
  rw [hE]at c2
  rcases Bool.eq_false_or_eq_true (id==t.id)with b1 | b1
  ·rw [if_pos b1]at hY
   subst hY
   repeat' (first
 | simp only [go_sem,hD,hJ,hP,hZ,gU,b1]
 | (with_reducible refine CU (Ii _) ?_)
 | (with_reducible refine CU (Ro _) ?_)
 | (with_reducible refine CU (c1 _) ?_)
 | (with_reducible refine CU (c2 _) ?_)
 | (with_reducible first | refine cm fun hc=> ?_ | refine cq fun hc=> ?_ | refine cr (fun hc=> ?_) fun hc=> ?_) <;> (try simp only [hc,bs, ↓reduceIte]at h) <;> try simp only [hc]
 | (with_reducible refine aJ hQ ?_;(try cases h);simp only [az,aB,cY,cZ,go_sem,hD,hJ,hP,hZ,gU,b1];try exact iD)
 | (cases h;done))
   refine dt 1 1 ?_ ?_ (IH (rest,acc.length+1,acc++ [{t with aY:=T,aM:=E}]) ⟨g2,by simp,by rw [← h3];simp⟩ (Nat.lt_succ_self _))
   ·(simp only [go_sem,hD,hJ,hP,hZ,aF hk,bJ];try exact br)
   ·(simp only [go_sem,hD,hJ,hP,hZ,aF hk,bJ];try exact br)
  ·rw [if_neg (by simp [b1])]at hY
   subst hY
   repeat' (first
 | simp only [go_sem,hD,hJ,hP,hZ,gU,b1]
 | (with_reducible refine CU (Ii _) ?_)
 | (with_reducible refine CU (Ro _) ?_)
 | (with_reducible refine CU (c1 _) ?_)
 | (with_reducible refine CU (c2 _) ?_)
 | (with_reducible first | refine cm fun hc=> ?_ | refine cq fun hc=> ?_ | refine cr (fun hc=> ?_) fun hc=> ?_) <;> (try simp only [hc,bs, ↓reduceIte]at h) <;> try simp only [hc]
 | (with_reducible refine aJ hQ ?_;(try cases h);simp only [az,aB,cY,cZ,go_sem,hD,hJ,hP,hZ,gU,b1];try exact iD)
 | (cases h;done))
   refine dt 1 1 ?_ ?_ (IH (rest,acc.length+1,acc++ [⟨id,kind,labels,name,proc,x,has,args,T,E⟩]) ⟨g2,by simp,by rw [← h3];simp⟩ (Nat.lt_succ_self _))
   ·(simp only [go_sem,hD,hJ,hP,hZ,aF hk];try exact br)
   ·(simp only [go_sem,hD,hJ,hP,hZ,aF hk];try exact br)
theorem Ow (t:Sm) (ht:t.nL<10000000) : ∀ N,N<10000000→M6 t N:=by
 intro N
 induction N with
 | zero=>intro _ l hl;exact absurd hl (Nat.not_lt_zero _)
 | succ N ih=>
  intro hN l hl s
  exact(LJ t ht (by omega) (ih (by omega)) l hl).pure (by simp [D.bI,D.ok,Tag.ok,nh,kq]) (by simp [D.bI,D.ok,Tag.ok,nh]) s
theorem Rq {t:Sm} (ht:t.nL<10000000) {l:List Sm} (h:Sm.aO l<9000000) (s:St):aI Try.prog ku [.slice .shared 13 (l.map a7), .agg (a7 t)] s (.slice .shared 13 ((Sm.ez (c6 t) l).map a7)) s:=
 Ow t ht 9999999 (by omega) l (by omega) s
theorem M7 {p:Pg} (hp:p.size<1000000) {t:Sm} (ht:t.nL<10000000) (st:St):aI Try.prog pQ [.agg (bP p), .agg (a7 t)] st (.agg (bP (p.put t))) st:=by
 refine aI.pure ?_ (by simp [D.bI,D.ok,iU,kq]) (by simp [D.ok,iU]) st
 obtain⟨globals,procs⟩:=p
 simp only [Pg.size]at hp
 have hlen:procs.length<1000000:=by have:=Pc.cH procs;omega
 have hG:=fun s=>vC (l:=globals) (by omega) s
 have e:Pg.bH (c6 t) ⟨globals,procs⟩ = ⟨globals,procs.map (Pc.bH (c6 t))⟩:=rfl
 show aI _ _ _ _ (.agg (bP (Pg.bH (c6 t) ⟨globals,procs⟩))) _
 rw [e]
 generalize hR:procs.map (Pc.bH (c6 t))=R
 unfold S0
 refine aI.go B6 rfl fun B Q hB hQ=> ?_
 have⟨hD,hJ,hP,hZ⟩:=b7
 repeat' (first
 | simp only [go_sem,hD,hJ,hP,hZ]
 | (with_reducible refine CU (hG _) ?_)
 | (with_reducible first | refine cm fun hc=> ?_ | refine cq fun hc=> ?_ | refine cr (fun hc=> ?_) fun hc=> ?_) <;> (try simp only [hc,bs, ↓reduceIte]at h) <;> try simp only [hc]
 | (with_reducible refine aJ hQ ?_;exact ik)
 | (cases h;done))
 refine bq.yD 3 1 5 rfl rfl ?_
 simp only [go_sem,hD,hJ,hP,hZ]
 refine dG 4 1 (bq.ind (ι:=List Pc×Nat×List Pc) (fun i=>procs.drop i.2.1=i.1∧i.2.1=i.2.2.length∧i.2.2++i.1.map (Pc.bH (c6 t))=R) (fun i=>i.1.length)
  (fun i=> [(3, .ptr 1 0),(4, .ptr 2 0),(5, .ptr 3 0),(14, .slice .shared 5 (procs.map bT)),(15, .int .i64 (procs.length:Int)),(16, .int .i64 (i.2.1:Int))])
  (fun i=>⟨[bP ⟨globals,procs⟩,a7 t,bP DQ,[.slice .shared 1 (globals.map encStr), .slice (.tok 0) 5 (i.2.2.map bT)]],[some i.2.1]⟩) ?_ (procs,0,[]) ⟨rfl,rfl,hR⟩)
 rintro⟨rest,k,acc⟩ ⟨h1,h2,h3⟩ IH
 dsimp only at h1 h2 h3
 subst h2
 cases rest with
 | nil=>
  have hD:=drop_nil h1
  simp only [List.map_nil,List.append_nil]at h3
  subst h3
  repeat' (first
 | simp only [go_sem,hD,hJ,hP,hZ]
 | (with_reducible first | refine cm fun hc=> ?_ | refine cq fun hc=> ?_ | refine cr (fun hc=> ?_) fun hc=> ?_) <;> (try simp only [hc,bs, ↓reduceIte]at h) <;> try simp only [hc]
 | (with_reducible refine aJ hQ ?_;exact ik)
 | (cases h;done))
 | cons y rest=>
  obtain⟨hJ,g2,hD,g4⟩:=drop_cons h1
  have dC:=Pc.bW (List.mem_of_getElem? hJ)
  obtain⟨name,params,vars,body,fin⟩:=y
  simp only [Pc.size]at dC
  have hk:acc.length<4611686018427387904:=by omega
  have gU:(acc.length+1)*113≤bt:=by simp only [bt];omega
  have c1:=fun s=>vC (l:=vars) (by omega) s
  have c2:=fun s=>vC (l:=fin) (by omega) s
  have c3:=fun s=>Rq ht (l:=body) (by omega) s
  have e2:Pc.bH (c6 t) ⟨name,params,vars,body,fin⟩ = ⟨name,params,vars,Sm.ez (c6 t) body,fin⟩:=rfl
  cases params with
  | nil=>
   have ha:=fun o T=>CT (size:=2) (bytes:=24) (z:=0) (z':=2) (g:= .shared) o T
   repeat' (first
 | simp only [go_sem,hD,hJ,hP,hZ,gU,ha]
 | (with_reducible refine CU (c1 _) ?_)
 | (with_reducible refine CU (c2 _) ?_)
 | (with_reducible refine CU (c3 _) ?_)
 | (with_reducible first | refine cm fun hc=> ?_ | refine cq fun hc=> ?_ | refine cr (fun hc=> ?_) fun hc=> ?_) <;> (try simp only [hc,bs, ↓reduceIte]at h) <;> try simp only [hc]
 | (with_reducible refine aJ hQ ?_;(try cases h);simp only [az,aB,cY,cZ,go_sem,hD,hJ,hP,hZ,gU,ha];try exact iD)
 | (cases h;done))
   refine dt 4 1 ?_ ?_ (IH (rest,acc.length+1,acc++ [Pc.bH (c6 t) ⟨name,[],vars,body,fin⟩]) ⟨g2,by simp,by rw [← h3];simp⟩ (Nat.lt_succ_self _))
   ·(simp only [go_sem,hD,hJ,hP,hZ,aF hk,e2];try exact br)
   ·(simp only [go_sem,hD,hJ,hP,hZ,aF hk,e2];try exact br)
  | cons q params=>
   have ha:=fun o T=>CS (size:=2) (bytes:=24) (rows:=(q::params).map fz) (by simp) (by simp only [List.length_map];unfold bt;omega) (z:=0) (g:= .shared) o T
   generalize q::params=ps at *
   repeat' (first
 | simp only [go_sem,hD,hJ,hP,hZ,gU,ha]
 | (with_reducible refine CU (c1 _) ?_)
 | (with_reducible refine CU (c2 _) ?_)
 | (with_reducible refine CU (c3 _) ?_)
 | (with_reducible first | refine cm fun hc=> ?_ | refine cq fun hc=> ?_ | refine cr (fun hc=> ?_) fun hc=> ?_) <;> (try simp only [hc,bs, ↓reduceIte]at h) <;> try simp only [hc]
 | (with_reducible refine aJ hQ ?_;(try cases h);simp only [az,aB,cY,cZ,go_sem,hD,hJ,hP,hZ,gU,ha];try exact iD)
 | (cases h;done))
   refine dt 4 1 ?_ ?_ (IH (rest,acc.length+1,acc++ [Pc.bH (c6 t) ⟨name,ps,vars,body,fin⟩]) ⟨g2,by simp,by rw [← h3];simp⟩ (Nat.lt_succ_self _))
   ·(simp only [go_sem,hD,hJ,hP,hZ,aF hk,e2];try exact br)
   ·(simp only [go_sem,hD,hJ,hP,hZ,aF hk,e2];try exact br)
end Go.Abs

/-! LawAl3 -/

namespace Go.Abs
set_option maxRecDepth 8000
open Go.Proofs
mutual
theorem LK {v:Sm} : ∀ s:Sm,v∈s.pre→v.nL≤s.size
 | ⟨id,kind,labels,name,proc,x,has,args,aY,aM⟩,m=>by
  rw [Sm.uP]at m
  simp only [Sm.size]
  rcases List.mem_cons.1 m with rfl | m
  ·simp only [Sm.nL];omega
  ·rcases List.mem_append.1 m with m | m
   ·have:=ra aY m;omega
   ·have:=ra aM m;omega
theorem ra {v:Sm} : ∀ l:List Sm,v∈Sm.dm l→v.nL≤Sm.aO l
 | s::l,m=>by
  simp only [Sm.dm]at m
  simp only [Sm.aO]
  rcases List.mem_append.1 m with m | m
  ·have:=LK s m;omega
  ·have:=ra l m;omega
end
theorem Ox {p:Pg} {v:Sm} (h:v∈p.pre):v.nL≤p.size:=by
 simp only [Pg.pre,List.mem_flatten,List.mem_map]at h
 obtain⟨l,⟨f,hf,rfl⟩,m⟩:=h
 have h1:=ra f.body m
 have h2:=Pc.bW hf
 simp only [Pc.size]at h2
 unfold Pg.size
 omega
theorem Jh {p:Pg} (hb:p.may=true) {k n:Int} (hk:k≠0) (hz:jA (jh k p.all) n≠0):(p.pZ (jA (jh k p.all) n)).kind=k:=by
 obtain⟨i,g1,g2,g3⟩:=ta.1 (Ak hz)
 obtain⟨hm,mQ⟩:=Al hb hz
 have v8:i.s∈p.pre:=by rw [← (oi hb).2];exact List.mem_map_of_mem g1
 obtain⟨j1,e1⟩:=List.getElem?_of_mem hm
 obtain⟨j2,e2⟩:=List.getElem?_of_mem v8
 have f1:=xU hb e1
 have f2:=xU hb e2
 have:j1=j2:=by rw [mQ]at f1;rw [g3]at f2;omega
 subst this
 rw [e1]at e2
 rw [Option.some.inj e2]
 simpa [hk]using g2
theorem yZ (p:Pg) (n i:Int) (s:St):aI Try.prog oR [.agg (bP p), .int .i64 n, .int .i64 i] s (.bool true) s:=by
 refine aI.pure ?_ (by simp [D.bI,D.ok,iU]) rfl s
 have h1:=fun s=>LD s
 have h2:=fun s=>Rf p s
 unfold S0
 rcases Bool.eq_false_or_eq_true (decide (p.vA≤20000))with hw | hw
 case inr=>
  simp only [hw]at h2
  refine aI.go eR rfl fun B Q hB hQ=> ?_
  have⟨hD,hJ,hP,hZ⟩:=b7
  repeat' (first
 | simp only [go_sem,hD,hJ,hP,hZ]
 | (with_reducible refine CU (h1 _) ?_)
 | (with_reducible refine CU (h2 _) ?_)
 | (with_reducible first | refine cm fun hc=> ?_ | refine cq fun hc=> ?_ | refine cr (fun hc=> ?_) fun hc=> ?_) <;> (try simp only [hc,bs, ↓reduceIte]at h) <;> try simp only [hc]
 | (with_reducible refine aJ hQ ?_;exact ik)
 | (cases h;done))
 simp only [hw]at h2
 obtain⟨dC,Ta⟩:=Gr (of_decide_eq_true hw)
 have ho:p.jy:=⟨Ta,by omega⟩
 obtain⟨sa,qW,sr⟩:=ho.procs
 have h3:=fun s=>wP ho s
 have h4:=fun s=>q8 ho s
 have b0:(p.arity.1 != 0) = !(p.arity.1==0):=rfl
 have b3:(p.alias.1 != 0) = !(p.alias.1==0):=rfl
 rcases Bool.eq_false_or_eq_true (p.arity.1==0)with b1 | b1
 case inr=>
  rw [b1]at b0
  refine aI.go eR rfl fun B Q hB hQ=> ?_
  have⟨hD,hJ,hP,hZ⟩:=b7
  repeat' (first
 | simp only [go_sem,hD,hJ,hP,hZ,b0,Bool.not_false]
 | (with_reducible refine CU (h1 _) ?_)
 | (with_reducible refine CU (h2 _) ?_)
 | (with_reducible refine CU (h3 _) ?_)
 | (with_reducible first | refine cm fun hc=> ?_ | refine cq fun hc=> ?_ | refine cr (fun hc=> ?_) fun hc=> ?_) <;> (try simp only [hc,bs, ↓reduceIte]at h) <;> try simp only [hc]
 | (with_reducible refine aJ hQ ?_;(try cases h);simp only [az,aB,cY,cZ,go_sem,hD,hJ,hP,hZ,b0,Bool.not_false];try exact iD)
 | (cases h;done))
 rw [b1]at b0
 rcases Bool.eq_false_or_eq_true (p.alias.1==0)with b2 | b2
 case inr=>
  rw [b2]at b3
  refine aI.go eR rfl fun B Q hB hQ=> ?_
  have⟨hD,hJ,hP,hZ⟩:=b7
  repeat' (first
 | simp only [go_sem,hD,hJ,hP,hZ,b0,b3,Bool.not_true,Bool.not_false]
 | (with_reducible refine CU (h1 _) ?_)
 | (with_reducible refine CU (h2 _) ?_)
 | (with_reducible refine CU (h3 _) ?_)
 | (with_reducible refine CU (h4 _) ?_)
 | (with_reducible first | refine cm fun hc=> ?_ | refine cq fun hc=> ?_ | refine cr (fun hc=> ?_) fun hc=> ?_) <;> (try simp only [hc,bs, ↓reduceIte]at h) <;> try simp only [hc]
 | (with_reducible refine aJ hQ ?_;(try cases h);simp only [az,aB,cY,cZ,go_sem,hD,hJ,hP,hZ,b0,b3,Bool.not_true,Bool.not_false];try exact iD)
 | (cases h;done))
 rw [b2]at b3
 have hb:=oY (oj b1).1
 have MV:=(vy hb).1
 have h5:=fun s=>S4 (p:=p) (by omega) (by omega) 4 s
 have h6:=fun s=>Q7 (l:=jh 4 p.all) (by have:=wU 4 p.all;omega) n s
 have WC:=fun(h:jA (jh 4 p.all) n≠0)=>Al hb h
 have WD:=fun(h:jA (jh 4 p.all) n≠0)=>Jh hb (by decide) h
 generalize jA (jh 4 p.all) n=id at *
 have h7:=fun s=>Rb (p:=p) (by omega) (by omega) id s
 generalize p.pZ id=V at *
 rcases Bool.eq_false_or_eq_true (id==0)with mQ | mQ
 ·refine aI.go eR rfl fun B Q hB hQ=> ?_
  have⟨hD,hJ,hP,hZ⟩:=b7
  repeat' (first
 | simp only [go_sem,hD,hJ,hP,hZ,b0,b3,Bool.not_true,mQ]
 | (with_reducible refine CU (h1 _) ?_)
 | (with_reducible refine CU (h2 _) ?_)
 | (with_reducible refine CU (h3 _) ?_)
 | (with_reducible refine CU (h4 _) ?_)
 | (with_reducible refine CU (h5 _) ?_)
 | (with_reducible refine CU (h6 _) ?_)
 | (with_reducible refine CU (h7 _) ?_)
 | (with_reducible first | refine cm fun hc=> ?_ | refine cq fun hc=> ?_ | refine cr (fun hc=> ?_) fun hc=> ?_) <;> (try simp only [hc,bs, ↓reduceIte]at h) <;> try simp only [hc]
 | (with_reducible refine aJ hQ ?_;(try cases h);simp only [az,aB,cY,cZ,go_sem,hD,hJ,hP,hZ,b0,b3,Bool.not_true,mQ];try exact iD)
 | (cases h;done))
 obtain⟨hv,WE⟩:=WC (by simpa using mQ)
 have Uc:=WD (by simpa using mQ)
 have tu:=s7 (ho.pre V hv)
 have Gx:=Ox hv
 have aex:=ho.sz
 obtain⟨q1,q2⟩:=LI ho b1 b2 hv Uc
 have M8:=fun s=>M7 (p:=p) (by omega) (t:= {V with name:= []}) (by unfold Sm.nL at Gx ⊢;dsimp only;omega) s
 have Ud:=fun s=>q8 q1 s
 have b4:((p.bH (c6 {V with name:= []})).alias.1 != 0)=false:=by simp only [bne,q2,Bool.not_true]
 simp only [Pg.put]at M8
 generalize p.bH (c6 {V with name:= []})=P1 at *
 simp only [bJ]at M8
 rcases Bool.eq_false_or_eq_true ((V.args.length:Int)==0)with c1 | c1
 ·refine aI.go eR rfl fun B Q hB hQ=> ?_
  have⟨hD,hJ,hP,hZ⟩:=b7
  repeat' (first
 | simp only [go_sem,hD,hJ,hP,hZ,b0,b3,Bool.not_true,mQ,bJ,c1]
 | (with_reducible refine CU (h1 _) ?_)
 | (with_reducible refine CU (h2 _) ?_)
 | (with_reducible refine CU (h3 _) ?_)
 | (with_reducible refine CU (h4 _) ?_)
 | (with_reducible refine CU (h5 _) ?_)
 | (with_reducible refine CU (h6 _) ?_)
 | (with_reducible refine CU (h7 _) ?_)
 | (with_reducible first | refine cm fun hc=> ?_ | refine cq fun hc=> ?_ | refine cr (fun hc=> ?_) fun hc=> ?_) <;> (try simp only [hc,bs, ↓reduceIte]at h) <;> try simp only [hc]
 | (with_reducible refine aJ hQ ?_;(try cases h);simp only [az,aB,cY,cZ,go_sem,hD,hJ,hP,hZ,b0,b3,Bool.not_true,mQ,bJ,c1];try exact iD)
 | (cases h;done))
 have aey:V.args.length<1000000:=by have:=Ar.cH V.args;unfold Sm.nL at Gx;omega
 have dP:V.args.length≠0:=fun e=>by rw [e]at c1;cases c1
 have hk:=D8 i (k:=(V.args.length:Int)) (by omega)
 have hm:=fun s=>MZ i (k:=(V.args.length:Int)) (by omega) (by omega) s
 obtain⟨j,hj⟩ : ∃ j:Nat,pB i V.args.length=(j:Int):=⟨(pB i V.args.length).toNat,(Int.toNat_of_nonneg hk.1).symm⟩
 have DN:j<V.args.length:=by have h2:=hk.2;rw [hj]at h2;omega
 obtain⟨a,ha⟩ : ∃ a,V.args[j]? = some a:=⟨_,List.getElem?_eq_getElem DN⟩
 rw [hj]at hm
 have oK:decide ((j:Int)<(V.args.length:Int))=true:=by simp;omega
 rcases Bool.eq_false_or_eq_true a.ref with c2 | c2
 case inr=>
  refine aI.go eR rfl fun B Q hB hQ=> ?_
  have⟨hD,hJ,hP,hZ⟩:=b7
  repeat' (first
 | simp only [go_sem,hD,hJ,hP,hZ,b0,b3,b4,Bool.not_true,Bool.not_false,mQ,bJ,c1,ha,oK,c2]
 | (with_reducible refine CU (h1 _) ?_)
 | (with_reducible refine CU (h2 _) ?_)
 | (with_reducible refine CU (h3 _) ?_)
 | (with_reducible refine CU (h4 _) ?_)
 | (with_reducible refine CU (h5 _) ?_)
 | (with_reducible refine CU (h6 _) ?_)
 | (with_reducible refine CU (h7 _) ?_)
 | (with_reducible refine CU (M8 _) ?_)
 | (with_reducible refine CU (Ud _) ?_)
 | (with_reducible refine CU (hm _) ?_)
 | (with_reducible first | refine cm fun hc=> ?_ | refine cq fun hc=> ?_ | refine cr (fun hc=> ?_) fun hc=> ?_) <;> (try simp only [hc,bs, ↓reduceIte]at h) <;> try simp only [hc]
 | (with_reducible refine aJ hQ ?_;(try cases h);simp only [az,aB,cY,cZ,go_sem,hD,hJ,hP,hZ,b0,b3,b4,Bool.not_true,Bool.not_false,mQ,bJ,c1,ha,oK,c2];try exact iD)
 | (cases h;done))
 obtain⟨r1,r2⟩:=Je ho b1 b2 hv Uc (List.mem_of_getElem? ha) c2
 have Rr:=fun s=>M7 (p:=p) (by omega) (t:= {V with name:=a.name}) (by unfold Sm.nL at Gx ⊢;dsimp only;omega) s
 have Ue:=fun s=>q8 r1 s
 simp only [Pg.put]at Rr
 generalize p.bH (c6 {V with name:=a.name})=P2 at *
 rw [r2,WE]at Ue
 simp only [bJ]at Rr
 have w1:((8:Int)==8)=true:=rfl
 have w2:(id==id)=true:=beq_self_eq_true _
 refine aI.go eR rfl fun B Q hB hQ=> ?_
 have⟨hD,hJ,hP,hZ⟩:=b7
 repeat' (first
 | simp only [go_sem,hD,hJ,hP,hZ,b0,b3,b4,Bool.not_true,Bool.not_false,mQ,bJ,c1,ha,oK,c2,w1,w2]
 | (with_reducible refine CU (h1 _) ?_)
 | (with_reducible refine CU (h2 _) ?_)
 | (with_reducible refine CU (h3 _) ?_)
 | (with_reducible refine CU (h4 _) ?_)
 | (with_reducible refine CU (h5 _) ?_)
 | (with_reducible refine CU (h6 _) ?_)
 | (with_reducible refine CU (h7 _) ?_)
 | (with_reducible refine CU (M8 _) ?_)
 | (with_reducible refine CU (Ud _) ?_)
 | (with_reducible refine CU (hm _) ?_)
 | (with_reducible refine CU (Rr _) ?_)
 | (with_reducible refine CU (Ue _) ?_)
 | (with_reducible first | refine cm fun hc=> ?_ | refine cq fun hc=> ?_ | refine cr (fun hc=> ?_) fun hc=> ?_) <;> (try simp only [hc,bs, ↓reduceIte]at h) <;> try simp only [hc]
 | (with_reducible refine aJ hQ ?_;(try cases h);simp only [az,aB,cY,cZ,go_sem,hD,hJ,hP,hZ,b0,b3,b4,Bool.not_true,Bool.not_false,mQ,bJ,c1,ha,oK,c2,w1,w2];try exact iD)
 | (cases h;done))
end Go.Abs

/-! Glue2 -/

namespace Go.Abs
def M0:Map:=⟨fun _ _=>none,fun _=>(0, .any),fun _=>none⟩
def Kept (w w':World):Prop:=w.keptBut w' (fun _=>False)∧∀ a:Addr,a.block<w.heap.size→w'.frozen? a=w.frozen? a
theorem Kept.frame {w w':World} (h:Kept w w') (may:MemPlace→Prop):w.keptBut w' may:=World.keptBut_mono (fun _ f=>f.elim) h.1
theorem Ext.Rs {M M':Map} {s':St} {w w':World} (e:Ext M S0 w M' s' w'):Kept w w':=by
 have hh : ∀ b,b<w.heap.size→w'.heap[b]? = w.heap[b]? :=fun b hb=>
  e.kept b hb (fun o ho=>by simp [S0]at ho) (fun t c z hl=>by obtain⟨n,hn⟩:=hl;simp [S0]at hn)
 refine⟨⟨e.os,e.output,fun i hi=> ?_⟩,fun a ha=> ?_⟩
 ·rw [hh i hi]
  exact(World.keptBut_refl w (fun _=>False)).2.2 i hi
 ·simp only [World.frozen?,hh _ ha]
theorem WG (G:Nat→Nat→Option Value) (w:World) (h : ∀ b o v,G b o=some v→w.cell? ⟨b,o,none⟩=some v∧v.oneCell'=true):Rel ⟨G,fun _=>(0, .any),fun _=>none⟩ S0 w:=
 ⟨h,fun o ds e=>by simp [S0]at e,fun o ho=>by simp [S0]at ho,fun o o' ho=>by simp [S0]at ho,fun t n e=>by simp [S0]at e,
  fun t b c z o hl=>by obtain⟨n,hn⟩:=hl;simp [S0]at hn,fun t t' b c z c' z' hl=>by obtain⟨n,hn⟩:=hl;simp [S0]at hn⟩
def Gy (w:World):Prop:=∀ g cs,OF g=some cs→∃ T fr,w.heap[g]? = some (.cells cs T fr)
theorem Tb (G:Nat→Nat→Option Value) {w:World} (h:Gy w):Laid ⟨G,fun _=>(0, .any),fun _=>none⟩ S0 w:=
 fun g cs hg=>⟨h g cs hg,fun o ho=>by simp [S0]at ho,fun t c z hl=>by obtain⟨n,hn⟩:=hl;simp [S0]at hn⟩
theorem Ji {P:Program} {f:FuncId} {args:List D} {eZ:Array Value} {w:World} {G:Nat→Nat→Option Value} (h:dJ P f args S0 fun d _=>d = .bool true)
 (hG : ∀ b o v,G b o=some v→w.cell? ⟨b,o,none⟩=some v∧v.oneCell'=true) (hl:eZ.size=args.length)
 (ha : ∀ (i:Nat) (d:D) (v:Value),args[i]? = some d→eZ[i]? = some v→RD ⟨G,fun _=>(0, .any),fun _=>none⟩ S0 d v) (iY:Gy w) :
 Calls P f eZ w fun e w'=>e = .returned (.bool true)∧Kept w w':=by
 refine(h _ w eZ (WG G w hG) (Tb G iY) hl ha).mono fun e w' hw=> ?_
 obtain⟨M',d,v,s',rfl,rfl,he,_,hv⟩:=hw
 rw [hv.ko]
 exact⟨rfl,he.Rs⟩
section
variable {P:Program} {H:Type} {enc:TypeId×Value→H}
theorem CW {f:Func} {s:ChangeSpec} {apart fresh handsOn again:Bool} {W W':World} {args:Array Value} {v:Value} {ds gs:List (DataW H)} {before pa pv:List MemPlace}
 (hW:DataW.Whole enc P f.params.toList s.vars apart W args.toList ds gs before)
 (Rt : ∀ (b:Nat) (sp:Nat→Bool) (hd:Bool),DataW.TrodAll enc P W' b sp hd f.resultTypes.toList (v.resultList f.resultTypes.size) (s.fn H (ds++gs)).results [])
 (AW : ∀ sp:Nat→Bool,(∀ p∈before,sp p.block=true)→DataW.TrodAll enc P W' 0 sp true f.params.toList args.toList (s.fn H (ds++gs)).args pa)
 (yh : ∀ sp:Nat→Bool,(∀ p∈before,sp p.block=true)→DataW.TrodVars enc P W' sp s.vars (s.fn H (ds++gs)).vars pv)
 (qW:before=pa++pv) (hk:Kept W W')
 (zu : ∀ (j:Nat) (t:TypeId) (r:Value),f.resultTypes[j]? = some t→(v.resultList f.resultTypes.size)[j]? = some r→Value.okWide P W' .any 0 t r) :
 s.post enc P f apart fresh handsOn again W args v W':=by
 have hD : ∀ p∈before,p.block<W.heap.size:=fun p hp=>hW.lt p hp
 have hold : ∀ p∈before,(fun b=>decide (b<W.heap.size)) p.block=true:=fun p hp=>by simpa using hD p hp
 refine⟨ds,gs,before,[],pa,pv,hW,Rt _ _ _,AW _ hold,yh _ hold,World.keptBut_mono (fun p hp=>⟨hp, ?_⟩) (hk.frame (· ∈before)),fun _=> ?_⟩
 ·rw [qW,List.mem_append]at hp
  exact Or.inr hp
 ·obtain⟨_,_,_,_,_,hz,hn⟩:=hW
  refine⟨zu,_,_,([]++pa)++pv,⟨[]++pa,pv,ChangeShapes.trodAll_append (AW _ (fun _ _=>rfl)) (Rt _ _ _),yh _ (fun _ _=>rfl),rfl, ?_, ?_⟩, ?_⟩
  ·intro b off hp
   have la:MemPlace.cell b off∈before:=by rw [qW];simpa using hp
   rw [hk.2 _ (hD _ la)]
   exact hz b off la
  ·intro ha
   have:=hn ha
   rw [qW]at this
   simpa using this
  ·intro p hp _
   rw [qW]
   simpa using hp
end
end Go.Abs

/-! Join -/

namespace Go.Abs
open Go.RowKit Go.ChangeShapes Go.WideShapes
def zb (w:World) (b o:Nat):Option Value:=
 match w.cell? ⟨b,o,none⟩with
 | some v=>if v.oneCell'=true then some v else none
 | none=>none
theorem D9 {w:World} (b o:Nat) (v:Value) (h:zb w b o=some v):w.cell? ⟨b,o,none⟩=some v∧v.oneCell'=true:=by
 unfold zb at h
 split at h
 ·split at h
  ·cases h;exact⟨‹_›, ‹_›⟩
  ·cases h
 ·cases h
def vh (w:World):Map:=⟨zb w,fun _=>(0, .any),fun _=>none⟩
theorem Kept.sameAt {w w':World} (h:Kept w w') {p:MemPlace} (hp:p.block<w.heap.size):w.sameAt w' p:=by
 have hk:=h.1.2.2 p.block hp
 cases p with
 | cell b off=>
  simp only [MemPlace.block]at hk hp
  simp only [World.sameAt,World.cell?]
  split at hk
  ·rename_i c t fr c' t' fr' e e'
   rw [e,e']
   simp only [hk.2.2.2 off (fun f=>f)]
  ·rename_i es clock ti Ru e e'
   rw [e,e']
  ·rw [hk]
 | map b=>
  simp only [MemPlace.block]at hk hp
  simp only [World.sameAt]
  split at hk
  ·rename_i c t fr c' t' fr' e e'
   rw [e,e']
   obtain⟨rfl,rfl,hs,hc⟩:=hk
   have:c'=c:=by
    apply Array.ext_getElem?
    intro i
    exact hc i (fun f=>f)
   rw [this]
  ·rename_i es clock ti Ru e e'
   rcases hk with f | ⟨rfl,rfl⟩
   ·exact f.elim
   ·rw [e,e']
  ·exact hk
section
variable {P:Program} {H:Type} {enc:TypeId×Value→H} {T:TypeId→Prop}
theorem yi (K:Kids P T) (hz : ∀ {t e:TypeId},T t→P.underlying t=some (.slice e)→0<P.cellsOf e) {W W':World} (hk:Kept W W') {sp:Nat→Bool} :
 ∀ {ts:List TypeId} {vs:List Value} {ds:List (DataW H)} {ps:List MemPlace},(∀ t∈ts,T t)→(∀ p∈ps,p.block<W.heap.size)→(∀ p∈ps,sp p.block=true)→
  DataW.TrodAll enc P W 0 (fun _=>true) true ts vs ds ps→DataW.TrodAll enc P W' 0 sp true ts vs ds ps
 | [],[],[],_,_,_,_,h=>h
 | t::ts,v::vs,d::ds,ps,hT,hD,hs,⟨p,q,⟨n,h1⟩,h2,e⟩=>by
  subst e
  refine⟨p,q,⟨n,DataW.trod_stays K hz (fun f=>by cases f) (hT t (List.mem_cons_self ..)) h1 (fun x hx=>hk.sameAt (hD x (List.mem_append_left _ hx))) (fun x hx=>hs x (List.mem_append_left _ hx))⟩, ?_,rfl⟩
  exact yi K hz hk (fun t ht=>hT t (List.mem_cons_of_mem _ ht)) (fun x hx=>hD x (List.mem_append_right _ hx)) (fun x hx=>hs x (List.mem_append_right _ hx)) h2
 | [],[],_::_,_,_,_,_,h=>h.elim
 | [],_::_,_,_,_,_,_,h=>h.elim
 | _::_,[],_,_,_,_,_,h=>h.elim
 | _::_,_::_,[],_,_,_,_,h=>h.elim
theorem LL (K:Kids P T) (hz : ∀ {t e:TypeId},T t→P.underlying t=some (.slice e)→0<P.cellsOf e) {f:Func} {s:ChangeSpec} {apart fresh handsOn again:Bool} {tb:TypeId} {W W':World} {args:Array Value} {ds gs:List (DataW H)} {before:List MemPlace}
 (hT : ∀ t∈f.params.toList,T t) (hb:P.underlying tb=some .bool) (hr:f.resultTypes = #[tb]) (yh:s.vars = []) (hW:DataW.Whole enc P f.params.toList s.vars apart W args.toList ds gs before)
 (tC:s.fn H (ds++gs) = {results:= [.lit (.bool true)],args:=ds}) (hk:Kept W W'):s.post enc P f apart fresh handsOn again W args (.bool true) W':=by
 have Rv:=hW
 have hD : ∀ p∈before,p.block<W.heap.size:=fun p hp=>hW.lt p hp
 obtain⟨p,q,hA,hV,rfl,hfz,hnd⟩:=hW
 rw [yh]at hV
 obtain⟨rfl,rfl⟩:=trodVars_none hV
 simp only [List.append_nil]at hD tC
 refine CW (pa:=p) (pv:= []) Rv (fun b sp hd=> ?_) (fun sp vV=> ?_) (fun sp vV=> ?_) rfl hk (ok_one hr rfl (okWide_bool_mk hb _))
 ·rw [List.append_nil,tC,hr]
  exact trodAll_cons_mk (shut_bool hb _) trodAll_mk0
 ·rw [List.append_nil,tC]
  simp only [List.append_nil]at vV
  exact yi K hz hk hT hD vV hA
 ·rw [List.append_nil,tC,yh]
  rfl
theorem Oz {f:FuncId} {args:List D} {eZ:Array Value} {w:World} (h:dJ P f args S0 fun d _=>d = .bool true) (hl:eZ.size=args.length)
 (ha : ∀ (i:Nat) (d:D) (v:Value),args[i]? = some d→eZ[i]? = some v→RD (vh w) S0 d v) (iY:Gy w):Calls P f eZ w fun e w'=>e = .returned (.bool true)∧Kept w w':=
 Ji (G:=zb w) h D9 hl ha iY
end
end Go.Abs

/-! Binds1 -/

namespace Go.Abs
open Go.Proofs
def yj (n:Int):List D:= [.int .i64 n]
theorem Tc (n:Int):D.bI 0 0 (yj n)=true:=rfl
theorem Rw (n m:Nat) (l:List Int):D.ie n m (l.map yj)=l.map yj:=jZ Tc n m l
attribute [go_sem] yj Rw
def Td (op:Int):aD:=
 if op=5 then [42]else if op=6 then [47]else if op=7 then [37]else if op=8 then [43]else if op=9 then [45]else if op=10 then [60]else if op=11 then [60,61]
 else if op=12 then [62]else if op=13 then [62,61]else if op=14 then [61,61]else if op=15 then [33,61]else if op=16 then [38,38]else [124,124]
def adT (op:Int):Int:=(Qw (Td op)).1
def Jj:Nat→List aD
 | 0=> []
 | n+1=>Jj n++ [[UInt8.ofNat (97+n)]]
end Go.Abs

/-! Join2 -/

namespace Go.Abs
open Go.RowKit Go.ChangeShapes Go.WideShapes
end Go.Abs

/-! Join3 -/

namespace Go.Abs
open Go.RowKit Go.ChangeShapes Go.WideShapes
def dH (W:World) (ds:List D) (cs:List Value):Prop:=ds.length=cs.length∧(∀ (i:Nat) (d:D) (v:Value),ds[i]? = some d→cs[i]? = some v→RD (vh W) S0 d v)∧∀ v∈cs,v.oneCell'=true
theorem dH.one {W:World} {d:D} {v:Value} (h:RD (vh W) S0 d v) (hv:v.oneCell'=true):dH W [d] [v]:=by
 refine⟨rfl,fun i d' v' h1 h2=> ?_,fun u hu=>by simp at hu;subst hu;exact hv⟩
 cases i with
 | zero=>simp at h1 h2;subst h1 h2;exact h
 | succ i=>simp at h1
theorem dH.app {W:World} {ds kZ:List D} {cs gi:List Value} (h:dH W ds cs) (h':dH W kZ gi):dH W (ds++kZ) (cs++gi):=by
 obtain⟨a1,a2,a3⟩:=h
 obtain⟨b1,b2,b3⟩:=h'
 refine⟨by simp [a1,b1],fun i d v h1 h2=> ?_,fun v hv=> ?_⟩
 ·by_cases hi:i<ds.length
  ·rw [List.getElem?_append_left hi]at h1
   rw [List.getElem?_append_left (by omega)]at h2
   exact a2 i d v h1 h2
  ·rw [List.getElem?_append_right (by omega)]at h1
   rw [List.getElem?_append_right (by omega), ← a1]at h2
   exact b2 _ d v h1 h2
 ·rcases List.mem_append.1 hv with hv | hv
  ·exact a3 v hv
  ·exact b3 v hv
theorem dH.at {W:World} {ds kZ:List D} {cs:List Value} {o n:Nat} (h:dH W ds ((cs.drop o).take n)) (h':dH W kZ (cs.drop (o+n))):dH W (ds++kZ) (cs.drop o):=by
 have e:cs.drop o=(cs.drop o).take n++cs.drop (o+n):=by rw [← List.drop_drop,List.take_append_drop]
 rw [e]
 exact h.app h'
theorem dH.end {W:World} {cs:List Value} {o:Nat} (h:cs.length=o):dH W [] (cs.drop o):=by
 rw [← h,List.drop_length]
 exact⟨rfl,fun i d v h=>by simp at h,fun v hv=>by cases hv⟩
section
variable {H:Type} {enc:TypeId×Value→H} {P:Program} {W:World} {sp:Nat→Bool}
def structOf (P:Program) (t:TypeId):List (TypeId×Nat):=
 match P.underlying t with
 | some (.struct fs)=>fs.toList.map fun f=>(f.type,f.offset)
 | _=> []
theorem jl {t:TypeId} {l:List (TypeId×Nat)} {fuel:Nat} {cs:List Value} {x:DataW H×List MemPlace} (h:structOf P t=l) (dP:l≠ []) (ht:DataW.trod enc P W 0 sp true fuel t cs=some x) :
 ∃ n,fuel=n+1∧cs.length=P.cellsOf t∧∀ (i:Nat) (f:TypeId×Nat),l[i]? = some f→∃ y,DataW.trod enc P W 0 sp true n f.1 ((cs.drop f.2).take (P.cellsOf f.1))=some y:=by
 unfold structOf at h
 split at h
 ·rename_i fs hu
  obtain⟨xs,n,e,_,hl,hlen,hf⟩:=DataW.trod_struct hu ht
  refine⟨n,e,hl,fun i f hi=> ?_⟩
  subst h
  rw [List.getElem?_map,Option.map_eq_some_iff]at hi
  obtain⟨g,hg,rfl⟩:=hi
  have Mq:fs[i]? = some g:=by simpa using hg
  have hi:i<xs.length:=by rw [hlen];exact(Array.getElem?_eq_some_iff.1 Mq).1
  exact⟨xs[i],by rw [hf i g Mq,List.getElem?_eq_getElem hi]⟩
 ·exact absurd h.symm dP
theorem AT {t:TypeId} {l:List (TypeId×Nat)} (h:structOf P t=l) (dP:l≠ []) : ∃ fs,P.underlying t=some (.struct fs):=by
 unfold structOf at h
 split at h
 ·exact⟨_, ‹_›⟩
 ·exact absurd h.symm dP
theorem we {α:Type} {Q:Nat→α→Prop} : ∀ n,(∀ i,i<n→∃ y,Q i y)→∃ ys:List α,ys.length=n∧∀ i y,ys[i]? = some y→Q i y
 | 0,_=>⟨[],rfl,fun i y h=>by simp at h⟩
 | n+1,h=>by
  obtain⟨ys,h1,h2⟩:=we n fun i hi=>h i (by omega)
  obtain⟨y,hy⟩:=h n (by omega)
  refine⟨ys++ [y],by simp [h1],fun i z hz=> ?_⟩
  by_cases hi:i<ys.length
  ·rw [List.getElem?_append_left hi]at hz;exact h2 i z hz
  ·rw [List.getElem?_append_right (by omega)]at hz
   have:i - ys.length=0:=by
    rcases Nat.eq_zero_or_pos (i - ys.length)with h | h
    ·exact h
    ·rw [List.getElem?_eq_none (by simp only [List.length_cons,List.length_nil];omega)]at hz;cases hz
   rw [this]at hz
   simp at hz
   subst hz
   have:i=n:=by omega
   subst this
   exact hy
theorem lK {α:Type} (en:α→List D) (good:α→Prop) {z:Nat} {t e:TypeId} {fuel:Nat} {cs:List Value} {x:DataW H×List MemPlace} (ht:P.underlying t=some (.slice e)) (hz:P.cellsOf e=z) (hz0:0<z) (Rx : ∀ y,(en y).length=z)
 (hel : ∀ n<fuel,∀ cs x,DataW.trod enc P W 0 sp true n e cs=some x→∃ y,dH W (en y) cs∧good y) (h:DataW.trod enc P W 0 sp true fuel t cs=some x) :
 ∃ ys:List α,dH W [.slice .shared z (ys.map en)] cs∧∀ y∈ys,good y:=by
 rcases DataW.trod_slice ht h with ⟨rfl,_⟩ | ⟨a,len,cap,elems,rest,n,hn,rfl,_,hb,hl,hm,hlen,qC,_,_⟩
 ·exact⟨[],dH.one (.gA _ _ _ rfl trivial) rfl,fun y hy=>by cases hy⟩
 ·by_cases h0:len=0
  ·subst h0
   exact⟨[],dH.one (.km _ _ _) rfl,fun y hy=>by cases hy⟩
  ·obtain⟨ys,hys,wA⟩:=we (Q:=fun i y=>good y∧∃ gi,W.cells? 0 (a.add (i*z)) z=some gi∧dH W (en y) gi) len fun i hi=>by
    have hc:=qC i hi
    rw [List.getElem?_eq_getElem (by omega),hz,Option.bind_eq_some_iff]at hc
    obtain⟨gi,h1,h2⟩:=hc
    obtain⟨y,h3,h4⟩:=hel n (by omega) _ _ h2
    exact⟨y,h4,gi,h1,h3⟩
   have cell : ∀ i y,ys[i]? = some y→∀ (j:Nat) d,(en y)[j]? = some d→∃ v,W.cell? ((a.add (i*z)).add j)=some v∧RD (vh W) S0 d v∧v.oneCell'=true:=by
    intro i y hy j d hd
    obtain⟨_,gi,h1,h2,h3,h4⟩:=wA i y hy
    obtain⟨_,k1,k2⟩:=World.cells?_some h1
    have hj:j<z:=by rw [← Rx y];exact(List.getElem?_eq_some_iff.1 hd).1
    have hv:gi[j]? = some gi[j]:=List.getElem?_eq_getElem (by omega)
    exact⟨gi[j],by rw [k2 j hj,hv],h3 j d _ hd hv,h4 _ (List.getElem_mem _)⟩
   obtain⟨b,off,spot⟩:=a
   have Te:spot=none:=by
    have hy:ys[0]? = some (ys[0]'(by omega)):=List.getElem?_eq_getElem (by omega)
    obtain⟨d,hd⟩ : ∃ d,(en (ys[0]'(by omega)))[0]? = some d:=⟨_,List.getElem?_eq_getElem (show 0<(en (ys[0]'(by omega))).length by rw [Rx];exact hz0)⟩
    obtain⟨v,hv,_⟩:=cell 0 _ hy 0 _ hd
    have:=World.cell?_spot hv
    simpa [Addr.add]using this
   subst Te
   have e:(ys.map en).length=len:=by simp [hys]
   have:=RD.slice (M:=vh W) (s:=S0) .shared z (ys.map en) b off cap (by omega) (fun row hr=>by obtain⟨y,_,rfl⟩:=List.mem_map.1 hr;exact Rx y)
    (fun i row j d h1 h2=>by
     rw [List.getElem?_map,Option.map_eq_some_iff]at h1
     obtain⟨y,h1,rfl⟩:=h1
     obtain⟨v,hv,_,h4⟩:=cell i y h1 j d h2
     rw [add_plain,add_plain]at hv
     refine⟨v, ?_⟩
     show zb W b (off+(i*z+j))=_
     unfold zb
     rw [show off+(i*z+j)=off+i*z+j by omega,hv]
     simp [h4])
    (fun i row j d u h1 h2 hu=>by
     rw [List.getElem?_map,Option.map_eq_some_iff]at h1
     obtain⟨y,h1,rfl⟩:=h1
     obtain⟨v,hv,h3,h4⟩:=cell i y h1 j d h2
     rw [add_plain,add_plain]at hv
     obtain⟨hu,_⟩:=D9 _ _ _ hu
     rw [show off+(i*z+j)=off+i*z+j by omega,hv]at hu
     cases hu
     exact h3) trivial
   rw [e]at this
   refine⟨ys,dH.one this rfl,fun y hy=> ?_⟩
   obtain⟨i,hi⟩:=List.getElem?_of_mem hy
   exact(wA i y hi).1
theorem yk {t:TypeId} {fuel:Nat} {cs:List Value} {x:DataW H×List MemPlace} (ht:P.underlying t=some (.int .i64)) (h:DataW.trod enc P W 0 sp true fuel t cs=some x) : ∃ n:Int,dH W [.int .i64 n] cs∧n≤9223372036854775807∧ -9223372036854775808≤n:=by
 obtain⟨n,rfl,_,hw⟩:=DataW.trod_int ht h
 simp [Lit.wf,IntKind.min,IntKind.max,IntKind.signed,IntKind.bits]at hw
 exact⟨n,dH.one (.int _ _) rfl,by omega,by omega⟩
theorem zc {t:TypeId} {fuel:Nat} {cs:List Value} {x:DataW H×List MemPlace} (ht:P.underlying t=some .bool) (h:DataW.trod enc P W 0 sp true fuel t cs=some x) : ∃ b:Bool,dH W [.bool b] cs:=by
 obtain⟨n,rfl,_⟩:=DataW.trod_bool ht h
 exact⟨n,dH.one (.bool _) rfl⟩
theorem qu {t:TypeId} {fuel:Nat} {cs:List Value} {x:DataW H×List MemPlace} (ht:P.underlying t=some .string) (h:DataW.trod enc P W 0 sp true fuel t cs=some x) : ∃ s:aD,dH W (encStr s) cs∧s.length≤maxLen:=by
 obtain⟨s,rfl,_,hm⟩:=DataW.trod_string ht h
 obtain⟨⟨l⟩⟩:=s
 exact⟨l,dH.one (.str l) rfl,hm⟩
theorem Tf {tE tI tN tS tK:TypeId} (hE:structOf P tE = [(tI,0),(tN,1),(tS,2),(tK,3)]) (Uf:P.cellsOf tE=4) (hI:P.underlying tI=some (.int .i64)) (hN:P.underlying tN=some (.int .i64)) (hS:P.underlying tS=some .string) (hK:P.underlying tK=some (.slice tE))
 (cI:P.cellsOf tI=1) (cN:P.cellsOf tN=1) (cS:P.cellsOf tS=1) (cK:P.cellsOf tK=1) :
 ∀ (fuel:Nat) (cs:List Value) (x:DataW H×List MemPlace),DataW.trod enc P W 0 sp true fuel tE cs=some x→∃ y:Ex,dH W (bx y) cs∧y.nF:=by
 intro fuel
 induction fuel using Nat.strongRecOn with
 | _ fuel ih=>
  intro cs x h
  obtain⟨n,rfl,hl,hf⟩:=jl hE (by simp) h
  obtain⟨y0,h0⟩:=hf 0 _ rfl
  obtain⟨y1,h1⟩:=hf 1 _ rfl
  obtain⟨y2,h2⟩:=hf 2 _ rfl
  obtain⟨y3,h3⟩:=hf 3 _ rfl
  dsimp only at h0 h1 h2 h3
  rw [cI]at h0
  rw [cN]at h1
  rw [cS]at h2
  rw [cK]at h3
  obtain⟨op,r0,_⟩:=yk hI h0
  obtain⟨m,r1,hm,_⟩:=yk hN h1
  obtain⟨s,r2,_⟩:=qu hS h2
  obtain⟨ks,r3,hg⟩:=lK (W:=W) bx Ex.nF hK Uf (by decide) Mt (fun k hk cs x hx=>ih k (by omega) cs x hx) h3
  refine⟨⟨op,m,s,ks⟩, ?_,hm, ?_⟩
  ·have:=r0.at (r1.at (r2.at (r3.at (dH.end (by rw [hl,Uf])))))
   rw [fq]
   simpa [encStr]using this
  ·clear r3
   induction ks with
   | nil=>exact trivial
   | cons k ks ihk=>exact⟨hg k (by simp),ihk fun y hy=>hg y (by simp [hy])⟩
theorem dH.agg {ds:List D} {v:Value} (h:dH W ds v.cells.toList) (hv : ∃ vs,v = .agg vs):RD (vh W) S0 (.agg ds) v:=by
 obtain⟨vs,rfl⟩:=hv
 obtain⟨h1,h2,h3⟩:=h
 have e:(Value.agg vs).cells=vs:=rfl
 rw [e]at h1 h2 h3
 refine .agg ds vs (by simpa using h1) (fun v hv=>h3 v (by simpa using hv)) fun i d v hd hv=>h2 i d v hd (by simpa using hv)
end
end Go.Abs

/-! Join4 -/

namespace Go.Abs
open Go.Proofs Go.RowKit Go.ChangeShapes Go.WideShapes
section
variable {H:Type} {enc:TypeId×Value→H} {W:World} {sp:Nat→Bool}
theorem Jk (fuel:Nat) (cs:List Value) (x:DataW H×List MemPlace) (h:DataW.trod enc Try.prog W 0 sp true fuel 43 cs=some x) : ∃ y:Ex,dH W (bx y) cs∧y.nF:=
 Tf (tE:=43) (tI:=3) (tN:=2) (tS:=9) (tK:=41) (by kernel_rfl) (by kernel_rfl) (by kernel_rfl) (by kernel_rfl) (by kernel_rfl) (by kernel_rfl) (by kernel_rfl) (by kernel_rfl) (by kernel_rfl) (by kernel_rfl) _ _ _ h
theorem OA:Try.prog.underlying 22=some (.slice 9):=by kernel_rfl
theorem sA:Try.prog.underlying 9=some .string:=by kernel_rfl
theorem Jl:Try.prog.underlying 3=some (.int .i64):=by kernel_rfl
theorem ze:Try.prog.underlying 4=some .bool:=by kernel_rfl
theorem vi:Try.prog.cellsOf 9=1:=by kernel_rfl
theorem RB:Try.prog.cellsOf 3=1:=by kernel_rfl
theorem zf:Try.prog.cellsOf 4=1:=by kernel_rfl
theorem zg:Try.prog.cellsOf 22=1:=by kernel_rfl
theorem M9:Try.prog.cellsOf 43=4:=by kernel_rfl
theorem tc {fuel:Nat} {cs:List Value} {x:DataW H×List MemPlace} (h:DataW.trod enc Try.prog W 0 sp true fuel 22 cs=some x) : ∃ l:List aD,dH W [.slice .shared 1 (l.map encStr)] cs:=by
 obtain⟨l,h,_⟩:=lK (W:=W) encStr (fun _=>True) OA vi (by decide) (fun _=>rfl) (fun k hk cs x hx=>by
  obtain⟨s,hs,_⟩:=qu sA hx
  exact⟨s,hs,trivial⟩) h
 exact⟨l,h⟩
theorem RC {fuel:Nat} {cs:List Value} {x:DataW H×List MemPlace} (h:DataW.trod enc Try.prog W 0 sp true fuel 64 cs=some x) : ∃ y:Pm,dH W (fz y) cs:=by
 obtain⟨n,rfl,hl,hf⟩:=jl (l:= [(9,0),(4,1)]) (by kernel_rfl) (by simp) h
 have hc:Try.prog.cellsOf 64=2:=by kernel_rfl
 obtain⟨y0,h0⟩:=hf 0 _ rfl
 obtain⟨y1,h1⟩:=hf 1 _ rfl
 dsimp only at h0 h1
 rw [vi]at h0
 rw [zf]at h1
 obtain⟨s,r0,_⟩:=qu sA h0
 obtain⟨b,r1⟩:=zc ze h1
 refine⟨⟨s,b⟩, ?_⟩
 have:=r0.at (r1.at (dH.end (by rw [hl,hc])))
 simpa [encStr,fz]using this
theorem RE {fuel:Nat} {cs:List Value} {x:DataW H×List MemPlace} (h:DataW.trod enc Try.prog W 0 sp true fuel 51 cs=some x) : ∃ y:Ar,dH W (dh y) cs∧y.x.nF:=by
 obtain⟨n,rfl,hl,hf⟩:=jl (l:= [(4,0),(9,1),(43,2)]) (by kernel_rfl) (by simp) h
 have hc:Try.prog.cellsOf 51=6:=by kernel_rfl
 obtain⟨y0,h0⟩:=hf 0 _ rfl
 obtain⟨y1,h1⟩:=hf 1 _ rfl
 obtain⟨y2,h2⟩:=hf 2 _ rfl
 dsimp only at h0 h1 h2
 rw [zf]at h0
 rw [vi]at h1
 rw [M9]at h2
 obtain⟨b,r0⟩:=zc ze h0
 obtain⟨s,r1,_⟩:=qu sA h1
 obtain⟨e,r2,hr⟩:=Jk _ _ _ h2
 refine⟨⟨b,s,e⟩, ?_,hr⟩
 have:=r0.at (r1.at (r2.at (dH.end (by rw [hl,hc]))))
 rw [fq]at this
 simpa [encStr,dh]using this
theorem td : ∀ {l:List Sm},(∀ s∈l,s.nF)→Sm.rK l
 | [],_=>trivial
 | s::l,h=>⟨h s (List.mem_cons_self ..),td fun t m=>h t (List.mem_cons_of_mem _ m)⟩
theorem RF : ∀ (fuel:Nat) (cs:List Value) (x:DataW H×List MemPlace),DataW.trod enc Try.prog W 0 sp true fuel 47 cs=some x→∃ y:Sm,dH W (a7 y) cs∧y.nF:=by
 intro fuel
 induction fuel using Nat.strongRecOn with
 | _ fuel ih=>
  intro cs x h
  obtain⟨n,rfl,hl,hf⟩:=jl (l:= [(3,0),(3,1),(22,2),(9,3),(9,4),(43,5),(4,9),(44,10),(45,11),(45,12)]) (by kernel_rfl) (by simp) h
  have hc:Try.prog.cellsOf 47=13:=by kernel_rfl
  have ca:Try.prog.cellsOf 44=1:=by kernel_rfl
  have gi:Try.prog.cellsOf 45=1:=by kernel_rfl
  have ua:Try.prog.underlying 44=some (.slice 51):=by kernel_rfl
  have us:Try.prog.underlying 45=some (.slice 47):=by kernel_rfl
  have ca6:Try.prog.cellsOf 51=6:=by kernel_rfl
  obtain⟨y0,h0⟩:=hf 0 _ rfl
  obtain⟨y1,h1⟩:=hf 1 _ rfl
  obtain⟨y2,h2⟩:=hf 2 _ rfl
  obtain⟨y3,h3⟩:=hf 3 _ rfl
  obtain⟨y4,h4⟩:=hf 4 _ rfl
  obtain⟨y5,h5⟩:=hf 5 _ rfl
  obtain⟨y6,h6⟩:=hf 6 _ rfl
  obtain⟨y7,h7⟩:=hf 7 _ rfl
  obtain⟨y8,h8⟩:=hf 8 _ rfl
  obtain⟨y9,h9⟩:=hf 9 _ rfl
  dsimp only at h0 h1 h2 h3 h4 h5 h6 h7 h8 h9
  rw [RB]at h0 h1
  rw [zg]at h2
  rw [vi]at h3 h4
  rw [M9]at h5
  rw [zf]at h6
  rw [ca]at h7
  rw [gi]at h8 h9
  obtain⟨id,r0,_⟩:=yk Jl h0
  obtain⟨kind,r1,_⟩:=yk Jl h1
  obtain⟨labels,r2⟩:=tc h2
  obtain⟨name,r3,_⟩:=qu sA h3
  obtain⟨proc,r4,_⟩:=qu sA h4
  obtain⟨e,r5,hr⟩:=Jk _ _ _ h5
  obtain⟨b,r6⟩:=zc ze h6
  obtain⟨args,r7,ha⟩:=lK (W:=W) dh (fun a=>a.x.nF) ua ca6 (by decide) (fun _=>rfl) (fun k hk cs x hx=>RE hx) h7
  obtain⟨aY,r8,ht⟩:=lK (W:=W) a7 Sm.nF us hc (by decide) AZ (fun k hk cs x hx=>ih k (by omega) cs x hx) h8
  obtain⟨aM,r9,he⟩:=lK (W:=W) a7 Sm.nF us hc (by decide) AZ (fun k hk cs x hx=>ih k (by omega) cs x hx) h9
  refine⟨⟨id,kind,labels,name,proc,e,b,args,aY,aM⟩, ?_,hr,ha,td ht,td he⟩
  have:=r0.at (r1.at (r2.at (r3.at (r4.at (r5.at (r6.at (r7.at (r8.at (r9.at (dH.end (by rw [hl,hc])))))))))))
  rw [fq]at this
  rw [bJ]
  simpa [encStr]using this
theorem RG {fuel:Nat} {cs:List Value} {x:DataW H×List MemPlace} (h:DataW.trod enc Try.prog W 0 sp true fuel 61 cs=some x) : ∃ y:Pc,dH W (bT y) cs∧Sm.rK y.body:=by
 obtain⟨n,rfl,hl,hf⟩:=jl (l:= [(9,0),(59,1),(22,2),(45,3),(22,4)]) (by kernel_rfl) (by simp) h
 have hc:Try.prog.cellsOf 61=5:=by kernel_rfl
 have cp:Try.prog.cellsOf 59=1:=by kernel_rfl
 have gi:Try.prog.cellsOf 45=1:=by kernel_rfl
 have up:Try.prog.underlying 59=some (.slice 64):=by kernel_rfl
 have us:Try.prog.underlying 45=some (.slice 47):=by kernel_rfl
 have cp2:Try.prog.cellsOf 64=2:=by kernel_rfl
 have WJ:Try.prog.cellsOf 47=13:=by kernel_rfl
 obtain⟨y0,h0⟩:=hf 0 _ rfl
 obtain⟨y1,h1⟩:=hf 1 _ rfl
 obtain⟨y2,h2⟩:=hf 2 _ rfl
 obtain⟨y3,h3⟩:=hf 3 _ rfl
 obtain⟨y4,h4⟩:=hf 4 _ rfl
 dsimp only at h0 h1 h2 h3 h4
 rw [vi]at h0
 rw [cp]at h1
 rw [zg]at h2 h4
 rw [gi]at h3
 obtain⟨name,r0,_⟩:=qu sA h0
 obtain⟨ps,r1,_⟩:=lK (W:=W) fz (fun _=>True) up cp2 (by decide) (fun _=>rfl) (fun k hk cs x hx=>by
  obtain⟨y,hy⟩:=RC hx
  exact⟨y,hy,trivial⟩) h1
 obtain⟨vars,r2⟩:=tc h2
 obtain⟨body,r3,hb⟩:=lK (W:=W) a7 Sm.nF us WJ (by decide) AZ (fun k hk cs x hx=>RF k cs x hx) h3
 obtain⟨fin,r4⟩:=tc h4
 refine⟨⟨name,ps,vars,body,fin⟩, ?_,td hb⟩
 have:=r0.at (r1.at (r2.at (r3.at (r4.at (dH.end (by rw [hl,hc]))))))
 simpa [encStr,bT]using this
theorem RH {fuel:Nat} {cs:List Value} {x:DataW H×List MemPlace} (h:DataW.trod enc Try.prog W 0 sp true fuel 25 cs=some x) : ∃ y:Pg,dH W (bP y) cs∧y.nF:=by
 obtain⟨n,rfl,hl,hf⟩:=jl (l:= [(22,0),(23,1)]) (by kernel_rfl) (by simp) h
 have hc:Try.prog.cellsOf 25=2:=by kernel_rfl
 have cp:Try.prog.cellsOf 23=1:=by kernel_rfl
 have up:Try.prog.underlying 23=some (.slice 61):=by kernel_rfl
 have cp5:Try.prog.cellsOf 61=5:=by kernel_rfl
 obtain⟨y0,h0⟩:=hf 0 _ rfl
 obtain⟨y1,h1⟩:=hf 1 _ rfl
 dsimp only at h0 h1
 rw [zg]at h0
 rw [cp]at h1
 obtain⟨globals,r0⟩:=tc h0
 obtain⟨procs,r1,hp⟩:=lK (W:=W) bT (fun f=>Sm.rK f.body) up cp5 (by decide) (fun _=>rfl) (fun k hk cs x hx=>RG hx) h1
 refine⟨⟨globals,procs⟩, ?_,hp⟩
 have:=r0.at (r1.at (dH.end (by rw [hl,hc])))
 simpa [bP]using this
end
end Go.Abs

/-! Join5 -/

namespace Go.Abs
open Go.Proofs Go.ChangeShapes Go.WideShapes Go.ChangeAt Go.RowKit
theorem vj {H:Type} {enc:TypeId×Value→H} {P:Program} {W:World} {sp:Nat→Bool} {t:TypeId} {ts:List TypeId} {ps:List MemPlace} : ∀ {l:List Value} {ds:List (DataW H)},DataW.TrodAll enc P W 0 sp true (t::ts) l ds ps→
 ∃ v l' d kZ p q,l=v::l'∧ds=d::kZ∧DataW.Trod enc P W 0 sp true t v d p∧DataW.TrodAll enc P W 0 sp true ts l' kZ q
 | v::l,d::ds,⟨p,q,h1,h2,e⟩=>⟨v,l,d,ds,p,q,rfl,rfl,h1,h2⟩
 | [],[],h=>h.elim
 | [],_::_,h=>h.elim
 | _::_,[],h=>h.elim
theorem LM {H:Type} {enc:TypeId×Value→H} {P:Program} {W:World} {sp:Nat→Bool} {ps:List MemPlace} : ∀ {l:List Value} {ds:List (DataW H)},DataW.TrodAll enc P W 0 sp true [] l ds ps→l = []∧ds = []
 | [],[],_=>⟨rfl,rfl⟩
 | [],_::_,h=>h.elim
 | _::_,ds,h=>by cases ds <;> exact h.elim
end Go.Abs

/-! AliasTwice -/

namespace Go.Proofs.Ythecipohmaannaa.aliasTwice
open Go.ChangeShapes Go.WideShapes Go.ChangeAt Go.RowKit Go.Abs
theorem own:ownKnob Try.prog.godebug=none:=by kernel_rfl
theorem kids:Kids Try.prog (· < Try.prog.types.size):=kids_rows (by kernel_rfl) (by kernel_rfl)
theorem full : ∀ {t e:TypeId},t<Try.prog.types.size→Try.prog.underlying t=some (.slice e)→0<Try.prog.cellsOf e:=fun {t e}=>slices_full_of Try.prog (by kernel_rfl) t e
theorem walk (w:World) (x0:Pg) (G4:x0.nF) (v0:Value) (RI:RD (vh w) S0 (.agg (bP x0)) v0) (x1:Int) (x2:Int):Calls Try.prog 4 #[v0, .int .i64 x1, .int .i64 x2] w fun e w'=>e = .returned (.bool true)∧Kept w w':=by
 refine Oz (args:= [.agg (bP x0), .int .i64 x1, .int .i64 x2]) ((yZ x0 x1 x2 S0).mono fun _ _ h=>h.1) rfl ?_ (fun _ _ h=>nomatch h)
 intro i d v h1 h2
 match i,h1,h2 with
 | 0,h1,h2=>simp at h1 h2;subst h1 h2;exact RI
 | 1,h1,h2=>simp at h1 h2;subst h1 h2;exact RD.int _ _
 | 2,h1,h2=>simp at h1 h2;subst h1 h2;exact RD.int _ _
set_option maxRecDepth 100000 in
theorem lifted (os : Os) (started : os.Started) (H : Type) (enc : TypeId × Value → H) :
   ReturnsInHanded {} Try.checked os 4 .any (Rows.aliasTwiceSpec.pre6 enc Try.prog Try.f4 Rows.aliasTwiceRow.domain false) (Rows.aliasTwiceSpec.post enc Try.prog Try.f4 false true false false) := by
 refine returnsInHanded_of_change (C := Try.checked) own started (by kernel_rfl) Try.func4
   (ChangeSpec.witness6 (enc := enc) (C := Try.checked) false ⟨#[], #[.agg #[.slice none 0 0, .slice none 0 0], .int .i64 0, .int .i64 0], []⟩ 8 (by kernel_rfl) (by kernel_rfl) (by kernel_rfl) (by kernel_rfl)) ?_
 intro W base args ds gs before Tl hW jE _
 have mZ : ∀ (j : Nat) t v, Try.f4.params[j]? = some t → args[j]? = some v → Value.okWide Try.prog W .any base t v := Tl
 have Rv := hW
 obtain ⟨p, q, RJ, hV, rfl, hfz, hnd⟩ := hW
 have hA : DataW.TrodAll enc Try.prog W 0 (fun _ => true) true Try.f4.params.toList args.toList ds p := RJ
 rw [Try.params4] at hA mZ
 obtain ⟨l⟩ := args
 obtain ⟨v0, l0, d0, Tx, p0, q0, e0, Ug, zH, RJ⟩ := vj hA
 obtain ⟨v1, l1, d1, ds1, p1, q1, e1, e1d, MW, hA1⟩ := vj RJ
 obtain ⟨v2, l2, d2, ds2, p2, q2, e2, e2d, hd2, hA2⟩ := vj hA1
 obtain ⟨en, end_⟩ := LM hA2
 have el : l = [v0, v1, v2] := by rw [show l = _ from e0, e1, e2, en]
 subst el
 have ed : ds = [d0, d1, d2] := by rw [Ug, e1d, e2d, end_]
 clear Ug
 subst ed
 have hpg : ∀ (i : Nat) (v : Value), Try.f4.params[i]? = some 25 → (⟨[v0, v1, v2]⟩ : Array Value)[i]? = some v → ∀ {d ps}, DataW.Trod enc Try.prog W 0 (fun _ => true) true 25 v d ps → ∃ x : Pg, RD (vh W) S0 (.agg (bP x)) v ∧ x.nF := by
   intro i v hp hv d ps ⟨fuel, hf⟩
   obtain ⟨y, h1, h2⟩ := RH hf
   obtain ⟨fs, xi⟩ := AT (P := Try.prog) (t := 25) (l := [(22, 0), (23, 1)]) (by kernel_rfl) (by simp)
   obtain ⟨cs, e, _⟩ := okWide_struct xi (mZ i 25 v (by rw [← Try.params4]; exact hp) hv)
   exact ⟨y, h1.agg ⟨cs, e⟩, h2⟩
 obtain ⟨x0, RI, G4⟩ := hpg 0 v0 (by rw [Try.params4]; rfl) rfl zH
 obtain ⟨x1, rfl, rfl, rfl, hi1⟩ := open_int Try.underlying3 (mZ 1 _ _ rfl rfl) MW
 obtain ⟨x2, rfl, rfl, rfl, ur⟩ := open_int Try.underlying3 (mZ 2 _ _ rfl rfl) hd2
 obtain ⟨rfl, rfl⟩ := trodVars_none hV
 refine (walk W x0 G4 v0 RI x1 x2).mono fun e W' ⟨he, hg⟩ => ?_
 subst he
 exact ⟨_, rfl, LL kids full (by rw [Try.params4]; decide) Try.underlying4 (by kernel_rfl) rfl Rv rfl hg⟩
theorem over:Rows.aliasTwiceRow.holds Try.pinned (OpenSpec.ofChange Rows.aliasTwiceSpec):=
 OpenClaim.holds_of_wide 4 Try.f4 rfl rfl rfl rfl rfl rfl rfl ⟨rfl,rfl,rfl,rfl,rfl⟩ rfl rfl rfl rfl rfl (by kernel_rfl) Try.func4 (by kernel_rfl)
  (of_decide_eq_true (by kernel_rfl)) (by unfold Func.isWrapper;first | (rw [if_pos (by decide +kernel)];kernel_rfl) | (rw [if_neg (by decide +kernel)];exact⟨rfl,rfl⟩))
  (fun os started H enc _=>lifted os started H enc)
theorem proved:Rows.AliasTwiceSaid:=
 over
#print axioms proved
end Go.Proofs.Ythecipohmaannaa.aliasTwice
