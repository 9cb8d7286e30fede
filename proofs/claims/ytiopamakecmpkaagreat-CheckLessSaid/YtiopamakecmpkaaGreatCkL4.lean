/-
  What is proved here: part 4 of the road to the claim (Tc6, Tc7, ScPr, ToP, FlP, JmpP, Al1, Al2, Al3, Prs3, Prs4, Prs5, Prs6, Lex3, MirParse, Prs7, Room1, Al4, Full1, Fits1, Fits2, MirEq, RefEq, RefEq2, LawTo1, AlP, LawAl2, SwP, MirMapS, MapS, RightP, MayLaw, MirNum, MayLaw2, MayLaw3, SubP, Cp1, Cp2, SelA, WpA, Cp3, Nb1, Nb2, Nb3, Nb4, Jm1, Jm2).
  No conditions.
-/
import Derived.Test.YtiopamakecmpkaaGreatCkL3

set_option linter.unusedSimpArgs false
set_option linter.unusedVariables false

/-! Tc6 -/

namespace Go.Abs
set_option maxRecDepth 8000
open Go.Proofs
def ph (p:Pg) (out:List aD):List aD→List aD
 | []=>out
 | v::l=>ph p (if dX p.globals v then out++ [v]else out) l
def pj (p:Pg) (out:List aD):List Sm→List aD
 | []=>out
 | v::l=>pj p (ph p out v.said) l
def na (p:Pg) (n:aD):List Sm:=match p.find n with | some f=>Sm.cD f.body | none=> []
def qb (p:Pg) (out:List aD):List aD→List aD
 | []=>out
 | n::l=>qb p (pj p out (na p n)) l
theorem zk (p:Pg) : ∀ (l out:List aD),out.length≤(ph p out l).length∧(ph p out l).length≤out.length+l.length
 | [],out=>⟨Nat.le_refl _,Nat.le_refl _⟩
 | v::l,out=>by
  simp only [ph]
  have h:=zk p l (if dX p.globals v then out++ [v]else out)
  have h2:out.length≤(if dX p.globals v then out++ [v]else out).length∧(if dX p.globals v then out++ [v]else out).length≤out.length+1:=by split <;> simp
  simp only [List.length_cons]
  omega
def oq:List Sm→Nat
 | []=>0
 | v::l=>v.said.length+oq l
theorem Bs : ∀ a b:List Sm,oq (a++b)=oq a+oq b
 | [],b=>by simp [oq]
 | v::a,b=>by simp only [List.cons_append,oq,Bs a b];omega
theorem Zp (v:Sm):v.said.length≤1+v.x.size+2*Ar.aR v.args:=by
 have : ∀ (l:List Ar) (out:List aD),(Ar.said out l).length≤out.length+2*Ar.aR l:=by
  intro l
  induction l with
  | nil=>intro out;simp [Ar.said]
  | cons a l ih=>
   intro out
   simp only [Ar.said,Ar.aR]
   refine Nat.le_trans (ih _) ?_
   have:=kT a.x
   have:1≤a.x.size:=by obtain⟨_,_,_,_⟩:=a.x;simp [Ex.size]
   simp only [List.length_append]
   split <;> simp <;> omega
 have h1:=this v.args (v.uA++v.x.names)
 have h2:=kT v.x
 have h4:v.uA.length≤1:=by unfold Sm.uA;split <;> simp
 simp only [List.length_append]at h1
 unfold Sm.said
 omega
mutual
theorem RV : ∀ s:Sm,oq s.pre≤2*s.size
 | ⟨id,kind,labels,name,proc,x,has,args,aQ,aM⟩=>by
  simp only [Sm.pre,oq,Bs,Sm.size]
  have h1:=Zp ⟨id,kind,labels,name,proc,x,has,args,aQ,aM⟩
  have h2:=uD aQ
  have h3:=uD aM
  dsimp only at h1
  omega
theorem uD : ∀ l:List Sm,oq (Sm.cD l)≤2*Sm.aR l
 | []=>by simp [Sm.cD,oq,Sm.aR]
 | s::l=>by
  simp only [Sm.cD,Bs,Sm.aR]
  have:=RV s;have:=uD l;omega
end
theorem zl (p:Pg) : ∀ (l:List Sm) (out:List aD),out.length≤(pj p out l).length∧(pj p out l).length≤out.length+oq l
 | [],out=>⟨Nat.le_refl _,Nat.le_refl _⟩
 | v::l,out=>by
  simp only [pj,oq]
  have h:=zl p l (ph p out v.said)
  have h2:=zk p v.said out
  omega
theorem zm {p:Pg} (h:p.kA) : ∀ (l out:List aD),out.length≤(qb p out l).length∧(qb p out l).length≤out.length+l.length*1800000
 | [],out=>⟨Nat.le_refl _,by simp [qb]⟩
 | n::l,out=>by
  simp only [qb]
  have h1:=zm h l (pj p out (na p n))
  have h2:=zl p (na p n) out
  have h3:oq (na p n)≤1800000:=by
   unfold na
   split
   ·rename_i f hf
    have:=uD f.body
    have h4:=Pc.bT (qs hf).1
    have h5:=h.procs.2.1
    simp only [Pc.size]at h4
    omega
   ·simp [oq]
  simp only [List.length_cons]
  omega
theorem G1 {p:Pg} (h:p.may=true):p.procs.length≤16:=by
 unfold Pg.may at h
 split at h
 ·cases h
 ·rename_i c
  simp only [Bool.or_eq_true,decide_eq_true_eq,not_or,Int.not_lt,gt_iff_lt]at c
  have:=c.1.2
  omega
def Pg.qt (p:Pg) (name:aD):List aD:=qb p [] (jN (p.work name))
def Pg.ln (p:Pg) (name:aD):List aD:=match p.sg name with | some _=>jN (p.qt name) | none=> []
theorem J2 {p:Pg} (ll:(p.scope.1==0)=true) {name:aD} {f:Pc} (hf:p.find name=some f):Good p (jN (p.work name)):=by
 have h:=Bq ll (p.procs.length+1) 0 [name] (zj hf)
 refine⟨uC (j7 _).1,fun x m=>h.2 x ?_⟩
 exact((j7 _).2 x).1 m
theorem RW {p:Pg} (h:p.kA) (name:aD) (s:St):aB Tryz.prog q6 [.agg (bA p), .str name] s (.slice .shared 1 ((p.ln name).map encStr)) s:=by
 refine aB.pure ?_ (by simp [D.bp,D.ok,gv]) (by simp only [D.ok,Tag.ok,eD];rfl) s
 have hk:=fun s=>Vv h name s
 have dI:=fun s=>Ej (p:=p) (by have:=h.procs;omega) s
 unfold Pg.ln
 unfold S0
 cases Vw:p.sg name with
 | none=>
  simp only [Vw,Option.isSome_none]at hk
  simp only [List.map_nil]
  refine aB.go tZ rfl fun B Q hB hQ=> ?_
  have⟨hF,hP,gA,gB⟩:=bF
  repeat' (first
 | simp only [go_sem,hF,hP,gA,gB]
 | (with_reducible refine CU (hk _) ?_)
 | (with_reducible refine aC hQ ?_;simp only [ay,az,Option.some.injEq,exists_eq_left',go_sem,hF,hP,gA,gB];repeat' (first | exact Ok.out | with_reducible refine aH ?_ ?_ | (simp;done))))
 | some f=>
 obtain⟨ll,hf⟩:=Br Vw
 simp only [Vw,Option.isSome_some]at hk
 dsimp only
 obtain⟨tP,ta,zW⟩:=h.procs
 have hN:=J2 ll hf
 obtain⟨N,hNe⟩ : ∃ N,jN (p.work name)=N:=⟨_,rfl⟩
 rw [hNe]at hN
 have hNl:=hN.len
 obtain⟨R,hR⟩ : ∃ R,p.qt name=R:=⟨_,rfl⟩
 rw [hR]
 unfold Pg.qt at hR
 rw [hNe]at hR
 have hRl:R.length≤28800000:=by
  have:=(zm h N []).2
  rw [hR]at this
  have h4:=G1 (Bk ll)
  have h3:N.length*1800000≤16*1800000:=Nat.mul_le_mul_right _ (by omega)
  simp only [List.length_nil]at this
  omega
 have XZ:=fun s=>Zo h ll hf s
 simp only [hNe]at XZ
 obtain⟨fn,zY,Cu⟩:=tZ
 refine aB.intro ⟨fn,zY,Cu⟩ (Nat.le_of_ble_eq_true rfl) fun B hB=> ?_
 generalize hQ:iP (⟨[],[]⟩:St).aw.length (⟨[],[]⟩:St).aA.length _ _ (⟨[],[]⟩:St)=Q
 have⟨hF,hP,gA,gB⟩:=bF
 refine Sem.kE ?_
 repeat' (first
 | simp only [go_sem,hF,hP,gA,gB]
 | (with_reducible refine aC hQ ?_;simp only [ay,az,Option.some.injEq,exists_eq_left',go_sem,hF,hP,gA,gB];repeat' (first | exact Ok.out | with_reducible refine aH ?_ ?_ | (simp;done))))
 refine Sem.kE ?_
 repeat' (first
 | simp only [go_sem,hF,hP,gA,gB]
 | (with_reducible refine CU (hk _) ?_)
 | (with_reducible refine aC hQ ?_;simp only [ay,az,Option.some.injEq,exists_eq_left',go_sem,hF,hP,gA,gB];repeat' (first | exact Ok.out | with_reducible refine aH ?_ ?_ | (simp;done))))
 refine Sem.kE ?_
 repeat' (first
 | simp only [go_sem,hF,hP,gA,gB]
 | (with_reducible refine CU (dI _) ?_)
 | (with_reducible refine aC hQ ?_;simp only [ay,az,Option.some.injEq,exists_eq_left',go_sem,hF,hP,gA,gB];repeat' (first | exact Ok.out | with_reducible refine aH ?_ ?_ | (simp;done))))
 refine Sem.kE ?_
 repeat' (first
 | simp only [go_sem,hF,hP,gA,gB]
 | (with_reducible refine aC hQ ?_;simp only [ay,az,Option.some.injEq,exists_eq_left',go_sem,hF,hP,gA,gB];repeat' (first | exact Ok.out | with_reducible refine aH ?_ ?_ | (simp;done))))
 refine Sem.kE ?_
 repeat' (first
 | simp only [go_sem,hF,hP,gA,gB]
 | (with_reducible refine CU (XZ _) ?_)
 | (with_reducible refine aC hQ ?_;simp only [ay,az,Option.some.injEq,exists_eq_left',go_sem,hF,hP,gA,gB];repeat' (first | exact Ok.out | with_reducible refine aH ?_ ?_ | (simp;done))))
 refine bh.l6 6 1 rfl ?_
 simp only [go_sem,hF,hP,gA,gB]
 refine cO 1 1 (bh.ind (ι:=List aD×Nat×List aD×Nat) (fun i=>N.drop i.2.1=i.1∧qb p i.2.2.1 i.1=R∧i.2.2.1.length≤R.length∧i.2.2.2=i.2.2.1.length) (fun i=>i.1.length)
  (fun i=> [(2, .ptr 0 0),(5, .dG (iA p) 0),(6, .slice (.tok 0) 1 (i.2.2.1.map encStr)),(21, .slice .shared 1 (N.map encStr)),(22, .int .i64 (N.length:Int)),(23, .int .i64 (i.2.1:Int))]) (fun i=>⟨[bA p],[some i.2.2.2]⟩) ?_ (N,0,[],0) ⟨rfl,hR,Nat.zero_le _,rfl⟩)
 rintro⟨rest,k,out,no⟩ ⟨h1,h2,h3,h4⟩ IH
 dsimp only at h1 h2 h3 h4
 subst h4
 cases rest with
 | nil=>
  have hF:=drop_nil h1
  simp only [qb]at h2
  subst h2
  have Et:(lT out).length=out.length:=List.length_mergeSort out
  repeat' (first
 | simp only [go_sem,hF,hP,gA,gB]
 | (with_reducible refine aC hQ ?_;simp only [ay,az,Option.some.injEq,exists_eq_left',go_sem,hF,hP,gA,gB];repeat' (first | exact Ok.out | with_reducible refine aH ?_ ?_ | (simp;done))))
  refine Sem.seq (Sem.sort (k:=6) (t:=0) (l:=out) hB (by decide) (by decide) (by decide) rfl rfl (by omega) ?_)
  refine Sem.seq (Sem.compact (k:=6) (t:=0) (l:=lT out) hB (by decide) rfl (by rw [Et];rfl) (by rw [Et];omega) ?_)
  rw [Bn]
  refine iz (ac:= .ret) (Q:=Q) (tm:= [(59, .slice (.tok 0) 1 ((jN out).map encStr)),(4, .slice (.tok 0) 1 ((jN out).map encStr))]) (s:=⟨[],[some (jN out).length]⟩) ?_
  repeat' (first
 | simp only [go_sem,hF,hP,gA,gB]
 | (with_reducible refine aC hQ ?_;simp only [ay,az,Option.some.injEq,exists_eq_left',go_sem,hF,hP,gA,gB];repeat' (first | exact Ok.out | with_reducible refine aH ?_ ?_ | (simp;done))))
 | cons x rest=>
  obtain⟨hP,g2,hF,g4⟩:=drop_cons h1
  have bW:k<4611686018427387904:=by omega
  obtain⟨g,Ew⟩:=hN.2 x (List.mem_of_getElem? hP)
  have hgm:=(qs Ew).1
  have hbd:na p x=Sm.cD g.body:=by unfold na;rw [Ew]
  simp only [qb,hbd]at h2
  obtain⟨j,hj,tR⟩:=Bo (k:=0) Ew
  have tR:p.at x=((j:Nat):Int):=by unfold Pg.at;simpa using tR
  have Ct:=fun s=>RF (p:=p) (by omega) x s
  simp only [tR]at Ct
  obtain⟨it,ye,Eo⟩:=Vg hj (by omega)
  have ac4:it.length≤900000:=by
   have e:=congrArg List.length ye
   obtain⟨a,b,e',_,_,e3,e4⟩:=(qF p).2 j g hj
   have e5:=qG p
   have e6:=congrArg List.length e3
   rw [e4]at e5
   simp only [List.length_map,List.length_append]at e e5 e6
   omega
  rw [← ye]at h2
  repeat' (first
 | simp only [go_sem,hF,hP,gA,gB,hP]
 | (with_reducible refine CU (Ct _) ?_)
 | (with_reducible refine CU (Eo _) ?_)
 | (with_reducible refine aC hQ ?_;simp only [ay,az,Option.some.injEq,exists_eq_left',go_sem,hF,hP,gA,gB];repeat' (first | exact Ok.out | with_reducible refine aH ?_ ?_ | (simp;done))))
  obtain⟨W,hW⟩ : ∃ W,pj p out (it.map Im.s)=W:=⟨_,rfl⟩
  rw [hW]at h2
  have hWR:W.length≤R.length:=by have:=(zm h rest W).1;rw [h2]at this;exact this
  have RR:out.length≤W.length:=by have:=(zl p (it.map Im.s) out).1;rw [hW]at this;exact this
  refine cO 1 1 (bh.ind (ι:=List Im×Nat×List aD×Nat) (fun i=>it.drop i.2.1=i.1∧pj p i.2.2.1 (i.1.map Im.s)=W∧i.2.2.1.length≤W.length∧i.2.2.2=i.2.2.1.length) (fun i=>i.1.length)
   (fun i=> [(2, .ptr 0 0),(5, .dG (iA p) 0),(6, .slice (.tok 0) 1 (i.2.2.1.map encStr)),(21, .slice .shared 1 (N.map encStr)),(22, .int .i64 (N.length:Int)),(23, .int .i64 (k:Int)),(31, .slice .shared 17 (it.map fj)),(32, .int .i64 (it.length:Int)),(33, .int .i64 (i.2.1:Int))]) (fun i=>⟨[bA p],[some i.2.2.2]⟩) ?_ (it,0,out,out.length) ⟨rfl,hW,RR,rfl⟩)
  rintro⟨qc,k2,Da,no⟩ ⟨j1,j2,j3,j4⟩ Bb
  dsimp only at j1 j2 j3 j4
  subst j4
  cases qc with
  | nil=>
   have aqv:=drop_nil j1
   simp only [List.map_nil,pj]at j2
   subst j2
   repeat' (first
 | simp only [go_sem,hF,hP,gA,gB,aqv]
 | (with_reducible refine aC hQ ?_;simp only [ay,az,Option.some.injEq,exists_eq_left',go_sem,hF,hP,gA,gB];repeat' (first | exact Ok.out | with_reducible refine aH ?_ ?_ | (simp;done))))
   refine dH 1 1 ?_ ?_ (IH (rest,k+1,Da,Da.length) ⟨g2,h2,hWR,rfl⟩ (Nat.lt_succ_self _))
   ·(simp only [go_sem,hF,hP,gA,gB,aJ bW];try exact bH)
   ·(simp only [go_sem,hF,hP,gA,gB,aJ bW];try exact bH)
  | cons y qc=>
   obtain⟨mh,LY,td,jg4⟩:=drop_cons j1
   have qD:k2<4611686018427387904:=by omega
   have hym:y.s∈Sm.cD g.body:=by rw [← ye];exact List.mem_map_of_mem (List.mem_of_getElem? mh)
   have Wp:=h.said hgm _ hym
   have XO:=fun s=>Bh Wp s
   have Et:=JS _ Wp
   simp only [List.map_cons,pj]at j2
   repeat' (first
 | simp only [go_sem,hF,hP,gA,gB,td,mh]
 | (with_reducible refine CU (XO _) ?_)
 | (with_reducible refine aC hQ ?_;simp only [ay,az,Option.some.injEq,exists_eq_left',go_sem,hF,hP,gA,gB];repeat' (first | exact Ok.out | with_reducible refine aH ?_ ?_ | (simp;done))))
   obtain⟨V,hV⟩ : ∃ V,ph p Da y.s.said=V:=⟨_,rfl⟩
   rw [hV]at j2
   have hVW:V.length≤W.length:=by have:=(zl p (qc.map Im.s) V).1;rw [j2]at this;exact this
   have hoV:Da.length≤V.length:=by have:=(zk p y.s.said Da).1;rw [hV]at this;exact this
   refine cO 1 1 (bh.ind (ι:=List aD×Nat×List aD×Nat) (fun i=>y.s.said.drop i.2.1=i.1∧ph p i.2.2.1 i.1=V∧i.2.2.1.length≤V.length∧i.2.2.2=i.2.2.1.length) (fun i=>i.1.length)
    (fun i=> [(2, .ptr 0 0),(5, .dG (iA p) 0),(6, .slice (.tok 0) 1 (i.2.2.1.map encStr)),(21, .slice .shared 1 (N.map encStr)),(22, .int .i64 (N.length:Int)),(23, .int .i64 (k:Int)),(31, .slice .shared 17 (it.map fj)),(32, .int .i64 (it.length:Int)),(33, .int .i64 (k2:Int)),(39, .slice .shared 1 (y.s.said.map encStr)),(40, .int .i64 (y.s.said.length:Int)),(41, .int .i64 (i.2.1:Int))]) (fun i=>⟨[bA p],[some i.2.2.2]⟩) ?_ (y.s.said,0,Da,Da.length) ⟨rfl,hV,hoV,rfl⟩)
   rintro⟨Ey,k3,zn,no⟩ ⟨l1,l2,l3,l4⟩ IH3
   dsimp only at l1 l2 l3 l4
   subst l4
   cases Ey with
   | nil=>
    have aqw:=drop_nil l1
    simp only [ph]at l2
    subst l2
    repeat' (first
 | simp only [go_sem,hF,hP,gA,gB,aqw]
 | (with_reducible refine aC hQ ?_;simp only [ay,az,Option.some.injEq,exists_eq_left',go_sem,hF,hP,gA,gB];repeat' (first | exact Ok.out | with_reducible refine aH ?_ ?_ | (simp;done))))
    refine dH 1 1 ?_ ?_ (Bb (qc,k2+1,zn,zn.length) ⟨LY,j2,hVW,rfl⟩ (Nat.lt_succ_self _))
    ·(simp only [go_sem,hF,hP,gA,gB,aJ qD];try exact bH)
    ·(simp only [go_sem,hF,hP,gA,gB,aJ qD];try exact bH)
   | cons z Ey=>
    obtain⟨adk,lg2,llt,lg4⟩:=drop_cons l1
    have X0:k3<4611686018427387904:=by omega
    have zZ:=fun g s=>jk (l:=p.globals) (by omega) z g s
    simp only [ph]at l2
    rcases Bool.eq_false_or_eq_true (dX p.globals z)with c1 | c1
    ·simp only [c1,if_true]at l2
     have gA:(zn.length+1)*17≤bl:=by unfold bl;omega
     have hoo:(zn++ [z]).length≤V.length:=by have:=(zk p Ey (zn++ [z])).1;rw [l2]at this;exact this
     repeat' (first
 | simp only [go_sem,hF,hP,gA,gB,llt,adk,c1]
 | (with_reducible refine CU (zZ _ _) ?_)
 | (with_reducible refine aC hQ ?_;simp only [ay,az,Option.some.injEq,exists_eq_left',go_sem,hF,hP,gA,gB];repeat' (first | exact Ok.out | with_reducible refine aH ?_ ?_ | (simp;done))))
     refine dH 1 1 ?_ ?_ (IH3 (Ey,k3+1,zn++ [z],zn.length+1) ⟨lg2,l2,hoo,by simp⟩ (Nat.lt_succ_self _))
     ·(simp only [go_sem,hF,hP,gA,gB,aJ X0,List.map_append,List.map_cons,List.map_nil,encStr];try exact bH)
     ·(simp only [go_sem,hF,hP,gA,gB,aJ X0,List.map_append,List.map_cons,List.map_nil,encStr];try exact bH)
    ·simp only [c1,Bool.false_eq_true,if_false]at l2
     repeat' (first
 | simp only [go_sem,hF,hP,gA,gB,llt,adk,c1]
 | (with_reducible refine CU (zZ _ _) ?_)
 | (with_reducible refine aC hQ ?_;simp only [ay,az,Option.some.injEq,exists_eq_left',go_sem,hF,hP,gA,gB];repeat' (first | exact Ok.out | with_reducible refine aH ?_ ?_ | (simp;done))))
     refine dH 1 1 ?_ ?_ (IH3 (Ey,k3+1,zn,zn.length) ⟨lg2,l2,l3,rfl⟩ (Nat.lt_succ_self _))
     ·(simp only [go_sem,hF,hP,gA,gB,aJ X0];try exact bH)
     ·(simp only [go_sem,hF,hP,gA,gB,aJ X0];try exact bH)
end Go.Abs

/-! Tc7 -/

namespace Go.Abs
open Go.Proofs
end Go.Abs

/-! ScPr -/

namespace Go.Abs
open Go.Proofs
end Go.Abs

/-! ToP -/

namespace Go.Abs
theorem RY {out:List aD} {x y:aD} : y∈sK out x↔y∈out∨y=x:=by
 unfold sK
 split
 ·rename_i e
  have:=(fF _ _).1 e
  constructor
  ·exact .inl
  ·rintro(h | rfl) <;> assumption
 ·simp
theorem vw {y:aD} : ∀ {l out:List aD},y∈sf out l↔y∈out∨y∈l
 | [],out=>by simp [sf]
 | x::l,out=>by
  simp only [sf,vw (l:=l),RY,List.mem_cons,or_assoc]
theorem J3 (p:Pg) {y:aD} : ∀ (n i:Nat) (out:List aD),y∈out→y∈mz p n i out
 | 0,i,out,h=>h
 | n+1,i,out,h=>by
  simp only [mz]
  split
  ·exact J3 p n _ _ (vw.2 (.inl h))
  ·exact h
theorem J4 : ∀ (l out:List aD),∃ e,sf out l=out++e
 | [],out=>⟨[],by simp [sf]⟩
 | x::l,out=>by
  obtain⟨e,h⟩:=J4 l (sK out x)
  simp only [sf,h]
  unfold sK
  split
  ·exact⟨e,rfl⟩
  ·exact⟨x::e,by simp⟩
theorem Cw {p:Pg} (ll:(p.scope.1==0)=true) : ∀ (n i:Nat) (out:List aD),Good p out→n+i=p.procs.length+1→(∀ (j:Nat) (x:aD),j<i→out[j]? = some x→∀ y∈nY p x,y∈out)→
 ∀ x∈mz p n i out,∀ y∈nY p x,y∈mz p n i out
 | 0,i,out,hg,hn,hc,x,hx,y,hy=>by
  simp only [mz]at hx ⊢
  obtain⟨j,hj⟩:=List.getElem?_of_mem hx
  have:=hg.len
  have:=(List.getElem?_eq_some_iff.1 hj).1
  exact hc j x (by omega) hj y hy
 | n+1,i,out,hg,hn,hc,x,hx,y,hy=>by
  simp only [mz]at hx ⊢
  split at hx
  ·rename_i z hz
   obtain⟨g,pI⟩:=hg.2 z (List.mem_of_getElem? hz)
   refine Cw ll n (i+1) _ (hg.add fun y m=> ?_) (by omega) (fun j x hj X1 y hy=> ?_) x hx y hy
   ·unfold nY at m
    rw [pI]at m
    exact xo ll (qs pI).1 m
   ·obtain⟨e,he⟩:=J4 (nY p z) out
    have hi:=(List.getElem?_eq_some_iff.1 hz).1
    rw [he,List.getElem?_append_left (by omega)]at X1
    rcases Nat.lt_or_ge j i with h1 | h1
    ·exact vw.2 (.inl (hc j x h1 X1 y hy))
    ·have:j=i:=by omega
     subst this
     rw [hz]at X1
     cases X1
     exact vw.2 (.inr hy)
  ·rename_i hz
   obtain⟨j,hj⟩:=List.getElem?_of_mem hx
   have h1:=(List.getElem?_eq_some_iff.1 hj).1
   have h2:=List.getElem?_eq_none_iff.1 hz
   exact hc j x (by omega) hj y hy
theorem Ez {p:Pg} {S:aD→Prop} (hS : ∀ x,S x→∀ y∈nY p x,S y) : ∀ (n i:Nat) (out:List aD),(∀ x∈out,S x)→∀ x∈mz p n i out,S x
 | 0,i,out,h,x,hx=>h x hx
 | n+1,i,out,h,x,hx=>by
  simp only [mz]at hx
  split at hx
  ·rename_i z hz
   exact Ez hS n _ _ (fun y hy=>(vw.1 hy).elim (h y) (hS z (h z (List.mem_of_getElem? hz)) y)) x hx
  ·exact h x hx
theorem G2 {p:Pg} {x:aD} : ∀ {l out:List aD},x∈ph p out l↔x∈out∨(x∈l∧x∈p.globals)
 | [],out=>by simp [ph]
 | v::l,out=>by
  simp only [ph,G2 (l:=l),List.mem_cons]
  cases e:dX p.globals v
  ·have:v∉p.globals:=fun m=>by rw [(fF _ _).2 m]at e;cases e
   simp only [Bool.false_eq_true,if_false]
   constructor
   ·rintro(h | ⟨h,k⟩)
    ·exact .inl h
    ·exact .inr ⟨.inr h,k⟩
   ·rintro(h | ⟨rfl | h,k⟩)
    ·exact .inl h
    ·exact absurd k this
    ·exact .inr ⟨h,k⟩
  ·have:v∈p.globals:=(fF _ _).1 e
   simp only [if_true,List.mem_append,List.mem_singleton]
   constructor
   ·rintro((h | rfl) | ⟨h,k⟩)
    ·exact .inl h
    ·exact .inr ⟨.inl rfl,this⟩
    ·exact .inr ⟨.inr h,k⟩
   ·rintro(h | ⟨rfl | h,k⟩)
    ·exact .inl (.inl h)
    ·exact .inl (.inr rfl)
    ·exact .inr ⟨h,k⟩
def qd:List Sm→List aD
 | []=> []
 | v::l=>v.said++qd l
theorem G3 {p:Pg} {x:aD} : ∀ {l:List Sm} {out:List aD},x∈pj p out l↔x∈out∨(x∈qd l∧x∈p.globals)
 | [],out=>by simp [pj,qd]
 | v::l,out=>by
  simp only [pj,G3 (l:=l),G2,qd,List.mem_append]
  constructor
  ·rintro((h | ⟨h,k⟩) | ⟨h,k⟩)
   ·exact .inl h
   ·exact .inr ⟨.inl h,k⟩
   ·exact .inr ⟨.inr h,k⟩
  ·rintro(h | ⟨h | h,k⟩)
   ·exact .inl (.inl h)
   ·exact .inl (.inr ⟨h,k⟩)
   ·exact .inr ⟨h,k⟩
def zo (p:Pg):List aD→List aD
 | []=> []
 | n::l=>qd (na p n)++zo p l
theorem G4 {p:Pg} {x:aD} : ∀ {l:List aD},x∈zo p l↔∃ n∈l,x∈qd (na p n)
 | []=>by simp [zo]
 | n::l=>by simp [zo,G4 (l:=l)]
theorem G5 {p:Pg} {x:aD} : ∀ {l out:List aD},x∈qb p out l↔x∈out∨(x∈zo p l∧x∈p.globals)
 | [],out=>by simp [qb,zo]
 | v::l,out=>by
  simp only [qb,G5 (l:=l),G3,zo,List.mem_append]
  constructor
  ·rintro((h | ⟨h,k⟩) | ⟨h,k⟩)
   ·exact .inl h
   ·exact .inr ⟨.inl h,k⟩
   ·exact .inr ⟨.inr h,k⟩
  ·rintro(h | ⟨h | h,k⟩)
   ·exact .inl (.inl h)
   ·exact .inl (.inr ⟨h,k⟩)
   ·exact .inr ⟨h,k⟩
theorem G6 {p:Pg} {nm x:aD} {f:Pc} (h:p.sg nm=some f):x∈p.ln nm↔(∃ n∈p.work nm,x∈qd (na p n))∧x∈p.globals:=by
 unfold Pg.ln
 rw [h]
 dsimp only
 rw [(j7 _).2]
 unfold Pg.qt
 rw [G5,G4]
 simp only [(j7 _).2,List.not_mem_nil,false_or]
end Go.Abs

/-! FlP -/

namespace Go.Abs
mutual
def Sm.nc (deep bO:Int) (aM:Bool):Sm→List It
 | ⟨id,kind,labels,name,proc,x,has,args,aQ,e⟩=>⟨⟨id,kind,labels,name,proc,x,has,args,aQ,e⟩,deep,bO,aM⟩::(Sm.oY (deep+1) id false aQ++Sm.oY (deep+1) id true e)
def Sm.oY (deep bO:Int) (aM:Bool):List Sm→List It
 | []=> []
 | s::l=>s.nc deep bO aM++Sm.oY deep bO aM l
end
mutual
theorem RZ (deep bO:Int) (aM:Bool) (out:List It) : ∀ s:Sm,(fT deep bO aM out s).length≤200→(∀ i∈fT deep bO aM out s,i.deep≤12)→fT deep bO aM out s=out++s.nc deep bO aM
 | ⟨id,kind,labels,name,proc,x,has,args,aQ,e⟩,h1,h2=>by
  simp only [fT,Sm.nc]at h1 h2 ⊢
  by_cases hd:deep≤12
  ·simp only [hd,decide_true,if_true]at h1 h2 ⊢
   obtain⟨e2,g2⟩:=oW (deep+1) id true (dw (deep+1) id false (out++ [⟨⟨id,kind,labels,name,proc,x,has,args,aQ,e⟩,deep,bO,aM⟩]) aQ) e
   have k1:(dw (deep+1) id false (out++ [⟨⟨id,kind,labels,name,proc,x,has,args,aQ,e⟩,deep,bO,aM⟩]) aQ).length≤200:=by
    rw [g2,List.length_append]at h1;omega
   have k2 : ∀ i∈dw (deep+1) id false (out++ [⟨⟨id,kind,labels,name,proc,x,has,args,aQ,e⟩,deep,bO,aM⟩]) aQ,i.deep≤12:=fun i m=>h2 i (by rw [g2];exact List.mem_append_left _ m)
   rw [wy (deep+1) id true _ e h1 h2,wy (deep+1) id false _ aQ k1 k2]
   simp
  ·simp only [hd,decide_false,Bool.false_eq_true,if_false]at h1 h2
   exact absurd (h2 _ (List.mem_append_right _ (List.mem_singleton.2 rfl))) (by simpa using hd)
theorem wy (deep bO:Int) (aM:Bool) (out:List It) : ∀ l:List Sm,(dw deep bO aM out l).length≤200→(∀ i∈dw deep bO aM out l,i.deep≤12)→dw deep bO aM out l=out++Sm.oY deep bO aM l
 | [],h1,h2=>by simp [dw,Sm.oY]
 | s::l,h1,h2=>by
  simp only [dw,Sm.oY]at h1 h2 ⊢
  by_cases hc:(out.length:Int)≤200
  ·simp only [hc,decide_true,if_true]at h1 h2 ⊢
   obtain⟨e2,g2⟩:=oW deep bO aM (fT deep bO aM out s) l
   have k1:(fT deep bO aM out s).length≤200:=by rw [g2,List.length_append]at h1;omega
   have k2 : ∀ i∈fT deep bO aM out s,i.deep≤12:=fun i m=>h2 i (by rw [g2];exact List.mem_append_left _ m)
   rw [wy deep bO aM _ l h1 h2,RZ deep bO aM out s k1 k2]
   simp
  ·simp only [hc,decide_false,Bool.false_eq_true,if_false]at h1
   omega
end
theorem J5 : ∀ (l:List Pc) (out:List It),(allM out l).length≤200→(∀ i∈allM out l,i.deep≤12)→(∀ f∈l,f.flat=Sm.oY 1 0 false f.body)∧allM out l=out++(l.map fun f=>Sm.oY 1 0 false f.body).flatten
 | [],out,h1,h2=>⟨fun f m=>(by cases m),by simp [allM]⟩
 | f::l,out,h1,h2=>by
  simp only [allM]at h1 h2 ⊢
  by_cases hc:(((out++f.flat).length:Nat):Int) > 200
  ·simp only [hc,decide_true,if_true]at h1;omega
  ·simp only [hc,decide_false,Bool.false_eq_true,if_false]at h1 h2 ⊢
   obtain⟨k1,k2⟩:=J5 l (out++f.flat) h1 h2
   have k3:f.flat=Sm.oY 1 0 false f.body:=by
    have:=wy 1 0 false [] f.body (by
     have:f.flat.length≤200:=by simp only [List.length_append]at hc;omega
     exact this) (fun i m=>h2 i (by rw [k2];exact List.mem_append_left _ (List.mem_append_right _ m)))
    simpa [Pc.flat]using this
   refine⟨fun g m=> ?_, ?_⟩
   ·rcases List.mem_cons.1 m with rfl | m
    ·exact k3
    ·exact k1 g m
   ·rw [k2,k3];simp
theorem Zq {p:Pg} (h:p.may=true):(∀ f∈p.procs,f.flat=Sm.oY 1 0 false f.body)∧p.all=(p.procs.map fun f=>Sm.oY 1 0 false f.body).flatten:=by
 obtain⟨h1,h2⟩:=yi h
 have:=J5 p.procs [] h1 (wv _ 0 h2).1
 simpa [Pg.all]using this
mutual
theorem agJ (deep bO:Int) (aM:Bool) : ∀ s:Sm,(s.nc deep bO aM).map It.s=s.pre
 | ⟨id,kind,labels,name,proc,x,has,args,aQ,e⟩=>by
  simp only [Sm.nc,Sm.pre,List.map_cons,List.map_append,EA _ _ _ aQ,EA _ _ _ e]
theorem EA (deep bO:Int) (aM:Bool) : ∀ l:List Sm,(Sm.oY deep bO aM l).map It.s=Sm.cD l
 | []=>rfl
 | s::l=>by simp only [Sm.oY,Sm.cD,List.map_append,agJ _ _ _ s,EA _ _ _ l]
end
def EB (l:List Sm) (none:Int):Int:=match l with | []=>none | t::_=>t.id
mutual
def Sm.vx (proc up next loop:Int):Sm→List Im
 | ⟨id,kind,labels,name,pc,x,has,args,aQ,aM⟩=>⟨⟨id,kind,labels,name,pc,x,has,args,aQ,aM⟩,proc,up,next,loop⟩::
  (Sm.kq proc id (if kind==6 then id else next) (if kind==6 then id else loop) aQ++Sm.kq proc id (if kind==6 then id else next) (if kind==6 then id else loop) aM)
def Sm.kq (proc up next loop:Int):List Sm→List Im
 | []=> []
 | s::l=>s.vx proc up (EB l next) loop++Sm.kq proc up next loop l
end
def pG (n:Nat) (l:List Sm):Prop:=∀ (i:Nat) (v:Sm),l[i]? = some v→v.id=((n+i+1:Nat):Int)
theorem pG.head {n:Nat} {v:Sm} {l:List Sm} (h:pG n (v::l)):v.id=((n+1:Nat):Int):=h 0 v rfl
theorem pG.tail {n:Nat} {v:Sm} {l:List Sm} (h:pG n (v::l)):pG (n+1) l:=fun i w hw=>by
 rw [h (i+1) w (by simpa using hw)];congr 1;omega
theorem pG.left {n:Nat} {a b:List Sm} (h:pG n (a++b)):pG n a:=fun i w hw=>h i w (by rw [List.getElem?_append_left (List.getElem?_eq_some_iff.1 hw).1];exact hw)
theorem pG.right {n:Nat} {a b:List Sm} (h:pG n (a++b)):pG (n+a.length) b:=fun i w hw=>by
 rw [h (a.length+i) w (by rw [List.getElem?_append_right (by omega)];simpa using hw)];congr 1;omega
theorem Vx (s:Sm):s.pre=s::(Sm.cD s.aQ++Sm.cD s.aM):=Sm.Ek s
mutual
theorem L4 : ∀ s:Sm,s.fQ=s.pre.length
 | ⟨id,kind,labels,name,proc,x,has,args,aQ,aM⟩=>by
  simp only [Sm.fQ,Sm.pre,List.length_cons,List.length_append,zp aQ,zp aM];omega
theorem zp : ∀ l:List Sm,Sm.dA l=(Sm.cD l).length
 | []=>rfl
 | s::l=>by simp only [Sm.dA,Sm.cD,List.length_append,L4 s,zp l]
end
mutual
theorem X2 (proc up next loop:Int) : ∀ s:Sm,(s.vx proc up next loop).map Im.s=s.pre
 | ⟨id,kind,labels,name,pc,x,has,args,aQ,aM⟩=>by
  simp only [Sm.vx,Sm.pre,List.map_cons,List.map_append,vy _ _ _ _ aQ,vy _ _ _ _ aM]
theorem vy (proc up next loop:Int) : ∀ l:List Sm,(Sm.kq proc up next loop l).map Im.s=Sm.cD l
 | []=>rfl
 | s::l=>by simp only [Sm.kq,Sm.cD,List.map_append,X2 _ _ _ _ s,vy _ _ _ _ l]
end
theorem Zr (proc up next loop:Int) (s:Sm):(s.vx proc up next loop).length=s.pre.length:=by rw [← X2 proc up next loop s,List.length_map]
theorem J6 (proc up next loop:Int) (l:List Sm):(Sm.kq proc up next loop l).length=(Sm.cD l).length:=by rw [← vy proc up next loop l,List.length_map]
mutual
theorem Zs (proc up next loop:Int) (out:List Im) : ∀ s:Sm,pG out.length s.pre→Im.one proc up next loop out s=out++s.vx proc up next loop
 | ⟨id,kind,labels,name,pc,x,has,args,aQ,aM⟩,h=>by
  simp only [Sm.pre]at h
  have h0:id=((out.length+1:Nat):Int):=h.head
  have h1:=h.tail.left
  have h2:=h.tail.right
  have e0:((out.length:Int)+1)=id:=by rw [h0];rfl
  simp only [Im.one,Sm.vx,e0]
  rw [zr proc id _ _ (out++ [_]) aQ (by rw [List.length_append];exact h1)]
  rw [zr proc id _ _ _ aM (by
   rw [List.length_append,List.length_append,J6];exact h2)]
  simp
theorem zr (proc up next loop:Int) (out:List Im) : ∀ l:List Sm,pG out.length (Sm.cD l)→Im.rows proc up next loop out l=out++Sm.kq proc up next loop l
 | [],h=>by simp [Im.rows,Sm.kq]
 | s::l,h=>by
  simp only [Sm.cD]at h
  have e:(if l.length=0 then next else(out.length:Int)+1+(s.fQ:Int))=EB l next:=by
   cases l with
   | nil=>rfl
   | cons t l=>
    have h2:=h.right
    simp only [Sm.cD]at h2
    rw [Vx t]at h2
    simp only [List.length_cons,EB]
    rw [if_neg (by omega),h2.head,L4]
    omega
  simp only [Im.rows,Sm.kq,e]
  rw [Zs proc up _ loop out s h.left,zr proc up next loop _ l (by rw [List.length_append,Zr];exact h.right)]
  simp
end
def FX (n:Nat):List Pc→List Im
 | []=> []
 | f::l=>Sm.kq n 0 (-1) 0 f.body++FX (n+1) l
theorem Zt {p:Pg} (h:p.may=true):pG 0 p.pre:=fun i v hv=>by rw [Bj h hv];congr 1;omega
def R0 (l:List It):Nat→Int→Int
 | 0,_=>0
 | n+1,bO=>if bO==0 then 0 else match l[n]? with
  | none=>0
  | some x=>if x.s.id != bO then R0 l n bO else if x.s.kind==6 then bO else R0 l n x.bO
def Up (L:List It) (k:Nat) (nc:List It) (vx:List Im):Prop:=∀ (i:Nat) (a:It) (b:Im),nc[i]? = some a→vx[i]? = some b→a.s=b.s∧a.bO=b.up∧R0 L (k+i) a.bO=b.loop
end Go.Abs

/-! JmpP -/

namespace Go.Abs
def iK (seen:List aD):List aD→List aD×Bool
 | []=>(seen,true)
 | n::l=>if dX seen n then(seen,false)else iK (seen++ [n]) l
theorem Bt : ∀ (l seen:List aD),iK seen l=(if pU seen l then((iK seen l).1,false)else(seen++l,true))
 | [],seen=>by simp [iK,pU]
 | n::l,seen=>by
  simp only [iK,pU]
  split
  ·rfl
  ·rw [Bt l (seen++ [n])]
   split
   ·rfl
   ·simp
theorem L5 : ∀ (a b seen:List aD),pU seen (a++b)=(pU seen a || pU (seen++a) b)
 | [],b,seen=>by simp [pU]
 | x::a,b,seen=>by
  simp only [List.cons_append,pU]
  split
  ·rfl
  ·rw [L5 a b (seen++ [x])];simp
theorem G7 : ∀ (l seen:List aD),seen.length≤(iK seen l).1.length∧(iK seen l).1.length≤seen.length+l.length
 | [],seen=>by simp [iK]
 | n::l,seen=>by
  simp only [iK]
  split
  ·simp
  ·have:=G7 l (seen++ [n]);simp at this ⊢;omega
def kc (kK:List aD) (v:Sm) (loop:Int):Bool:=if v.kind==7 || v.kind==8 then loop != 0 else if v.kind==10 then dX kK v.name else true
def sL (kK fin seen:List aD):List (Sm×Int)→Option Int
 | []=>if(iK seen fin).2 then none else some 0
 | (v,lp)::l=>if(iK seen v.labels).2 then(if kc kK v lp then sL kK fin (iK seen v.labels).1 l else some v.id)else some v.id
def fl:List Sm→List aD
 | []=> []
 | v::l=>v.labels++fl l
def Pc.labels (f:Pc):List aD:=fl (Sm.cD f.body)++f.fin
def Im.pair (m:Im):Sm×Int:=(m.s,m.loop)
def Pc.ry (f:Pc):List (Sm×Int):=(Sm.kq 0 0 (-1) 0 f.body).map Im.pair
def sM:List Pc→Option Int
 | []=>none
 | f::l=>match sL f.labels f.fin [] f.ry with
  | some id=>some id
  | none=>sM l
def ym (c:Int):Option Int→Int×Int
 | some id=>(c,id)
 | none=>(0,0)
def Pg.jump (p:Pg):Int×Int:=if p.scope.1==0 then ym 7 (sM p.procs)else(1,0)
mutual
theorem Vy (proc up next uE R1 next' loop:Int) : ∀ s:Sm,(s.vx proc up next loop).map Im.pair=(s.vx uE R1 next' loop).map Im.pair
 | ⟨id,kind,labels,name,pc,x,has,args,aQ,aM⟩=>by
  simp only [Sm.vx,List.map_cons,List.map_append,Im.pair]
  rw [wz proc id _ uE id (if kind==6 then id else next') _ aQ,wz proc id _ uE id (if kind==6 then id else next') _ aM]
theorem wz (proc up next uE R1 next' loop:Int) : ∀ l:List Sm,(Sm.kq proc up next loop l).map Im.pair=(Sm.kq uE R1 next' loop l).map Im.pair
 | []=>rfl
 | s::l=>by
  simp only [Sm.kq,List.map_append]
  rw [Vy proc up _ uE R1 (EB l next') loop s,wz proc up next uE R1 next' loop l]
end
theorem Vz (n:Int) (f:Pc):(Sm.kq n 0 (-1) 0 f.body).map Im.pair=f.ry:=wz _ _ _ _ _ _ _ _
theorem Zu (f:Pc):f.ry.map Prod.fst=Sm.cD f.body:=by
 unfold Pc.ry
 rw [List.map_map, ← vy 0 0 (-1) 0 f.body]
 rfl
def L6 (l:List It):Nat→Int→Int
 | 0,_=>0
 | n+1,id=>match l[n]? with
  | none=>0
  | some x=>if x.s.id != id then L6 l n id else if R0 l n x.bO != 0 then R0 l n x.bO else L6 l n id
end Go.Abs

/-! Al1 -/

namespace Go.Abs
set_option maxRecDepth 8000
open Go.Proofs
def lI (nm:aD) (T:List aD) (seen:List aD):List Ar→Bool
 | []=>true
 | a::l=>if a.ref then(if dX seen a.name || (a.name==nm || dX T a.name)then false else lI nm T (seen++ [a.name]) l)else lI nm T seen l
def apM (T:List aD) (seen:List aD):List Ar→Bool
 | []=>true
 | a::l=>if a.ref then(if dX seen a.name || dX T a.name then false else apM T (seen++ [a.name]) l)else apM T seen l
def Sm.aqx (v:Sm):List aD:=if v.name != []then [v.name]else []
theorem VA {v:Sm} (qB:v.args.length<1000000000) {T:List aD} (hT:T.length<4611686018427387904) (s:St) :
 aB Tryz.prog rZ [.agg (aU v), .slice .shared 1 (T.map encStr)] s (.bool (lI v.name T [] v.args)) s:=by
 refine aB.pure ?_ (by simp [D.bp,D.ok,km,Tag.ok,eD]) rfl s
 generalize hR:lI v.name T [] v.args=R
 have X3:=fun x s=>rp hT x s
 unfold S0
 refine aB.go CY rfl fun B Q hB hQ=> ?_
 have⟨hF,hP,gA,gB⟩:=bF
 repeat' (first
 | simp only [go_sem,hF,hP,gA,gB]
 | (with_reducible refine aC hQ ?_;simp only [ay,az,Option.some.injEq,exists_eq_left',go_sem,hF,hP,gA,gB];repeat' (first | exact Ok.out | with_reducible refine aH ?_ ?_ | (simp;done))))
 refine bh.l6 5 1 rfl ?_
 simp only [go_sem,hF,hP,gA,gB]
 refine cO 1 1 (bh.ind (ι:=List Ar×Nat×List aD×Nat) (fun i=>v.args.drop i.2.1=i.1∧lI v.name T i.2.2.1 i.1=R∧i.2.2.1.length≤i.2.1∧i.2.2.2=i.2.2.1.length) (fun i=>i.1.length)
  (fun i=> [(1, .slice .shared 1 (T.map encStr)),(2, .ptr 0 0),(5, .slice (.tok 0) 1 (i.2.2.1.map encStr)),(9, .slice .shared 6 (v.args.map ej)),(10, .int .i64 (v.args.length:Int)),(11, .int .i64 (i.2.1:Int))]) (fun i=>⟨[aU v],[some i.2.2.2]⟩) ?_ (v.args,0,[],0) ⟨rfl,hR,Nat.le_refl _,rfl⟩)
 clear hR
 rintro⟨rest,k,seen,n'⟩ ⟨h1,h2,h3,h4⟩ IH
 dsimp only at h1 h2 h3 h4
 subst h4
 cases rest with
 | nil=>
  have hF:=drop_nil h1
  simp only [lI]at h2
  subst h2
  repeat' (first
 | simp only [go_sem,hF,hP,gA,gB]
 | (with_reducible refine aC hQ ?_;simp only [ay,az,Option.some.injEq,exists_eq_left',go_sem,hF,hP,gA,gB];repeat' (first | exact Ok.out | with_reducible refine aH ?_ ?_ | (simp;done))))
 | cons a rest=>
  obtain⟨hP,g2,hF,g4⟩:=drop_cons h1
  have bW:k<4611686018427387904:=by omega
  have gA:(seen.length+1)*17≤bl:=by unfold bl;omega
  have qS:=fun g s=>jk (l:=seen) (by omega) a.name g s
  simp only [lI]at h2
  rcases Bool.eq_false_or_eq_true a.ref with c1 | c1
  case inr=>
   simp only [c1,Bool.false_eq_true,if_false]at h2
   repeat' (first
 | simp only [go_sem,hF,hP,gA,gB,c1,Bool.not_false]
 | (with_reducible refine aC hQ ?_;simp only [ay,az,Option.some.injEq,exists_eq_left',go_sem,hF,hP,gA,gB];repeat' (first | exact Ok.out | with_reducible refine aH ?_ ?_ | (simp;done))))
   refine dH 1 1 ?_ ?_ (IH (rest,k+1,seen,_) ⟨g2,h2,by dsimp only;omega,rfl⟩ (Nat.lt_succ_self _))
   ·(simp only [go_sem,hF,hP,gA,gB,aJ bW];try exact bH)
   ·(simp only [go_sem,hF,hP,gA,gB,aJ bW];try exact bH)
  simp only [c1,if_true]at h2
  rcases Bool.eq_false_or_eq_true (dX seen a.name)with c2 | c2
  ·simp only [c2,Bool.true_or,if_true]at h2
   subst h2
   repeat' (first
 | simp only [go_sem,hF,hP,gA,gB,c1,c2,Bool.not_true]
 | (with_reducible refine CU (qS _ _) ?_)
 | (with_reducible refine CU (X3 _ _) ?_)
 | (with_reducible refine aC hQ ?_;simp only [ay,az,Option.some.injEq,exists_eq_left',go_sem,hF,hP,gA,gB];repeat' (first | exact Ok.out | with_reducible refine aH ?_ ?_ | (simp;done))))
  rcases Bool.eq_false_or_eq_true (a.name==v.name)with c3 | c3
  ·simp only [c2,c3,Bool.false_or,Bool.true_or,if_true]at h2
   subst h2
   repeat' (first
 | simp only [go_sem,hF,hP,gA,gB,c1,c2,c3,Bool.not_true]
 | (with_reducible refine CU (qS _ _) ?_)
 | (with_reducible refine CU (X3 _ _) ?_)
 | (with_reducible refine aC hQ ?_;simp only [ay,az,Option.some.injEq,exists_eq_left',go_sem,hF,hP,gA,gB];repeat' (first | exact Ok.out | with_reducible refine aH ?_ ?_ | (simp;done))))
  rcases Bool.eq_false_or_eq_true (dX T a.name)with c4 | c4
  ·simp only [c2,c3,c4,Bool.false_or,if_true]at h2
   subst h2
   repeat' (first
 | simp only [go_sem,hF,hP,gA,gB,c1,c2,c3,c4,Bool.not_true]
 | (with_reducible refine CU (qS _ _) ?_)
 | (with_reducible refine CU (X3 _ _) ?_)
 | (with_reducible refine aC hQ ?_;simp only [ay,az,Option.some.injEq,exists_eq_left',go_sem,hF,hP,gA,gB];repeat' (first | exact Ok.out | with_reducible refine aH ?_ ?_ | (simp;done))))
  ·simp only [c2,c3,c4,Bool.false_or,Bool.false_eq_true,if_false]at h2
   repeat' (first
 | simp only [go_sem,hF,hP,gA,gB,c1,c2,c3,c4,Bool.not_true]
 | (with_reducible refine CU (qS _ _) ?_)
 | (with_reducible refine CU (X3 _ _) ?_)
 | (with_reducible refine aC hQ ?_;simp only [ay,az,Option.some.injEq,exists_eq_left',go_sem,hF,hP,gA,gB];repeat' (first | exact Ok.out | with_reducible refine aH ?_ ?_ | (simp;done))))
   refine dH 1 1 ?_ ?_ (IH (rest,k+1,seen++ [a.name],seen.length+1) ⟨g2,h2,by simp;omega,by simp⟩ (Nat.lt_succ_self _))
   ·(simp only [go_sem,hF,hP,gA,gB,aJ bW,List.map_append,List.map_cons,List.map_nil,encStr];try exact bH)
   ·(simp only [go_sem,hF,hP,gA,gB,aJ bW,List.map_append,List.map_cons,List.map_nil,encStr];try exact bH)
def nf (p:Pg):List Pc→List D
 | []=> []
 | f::l=> .str f.name:: .slice .shared 1 ((p.ln f.name).map encStr)::nf p l
theorem R3 (p:Pg) : ∀ l,D.bp 0 0 (nf p l)=true
 | []=>rfl
 | f::l=>by simp only [nf,D.bp,D.ok,Tag.ok,eD,R3 p l];rfl
theorem Zv (n m:Nat) (p:Pg) (l:List Pc):D.gF n m (nf p l)=nf p l:=il n m _ (R3 p l)
attribute [go_sem] Zv
theorem J7 (p:Pg) : ∀ l m,nf p (l++m)=nf p l++nf p m
 | [],m=>rfl
 | f::l,m=>by simp only [List.cons_append,nf,J7 p l m]
theorem J8 {p:Pg} {nm:aD} {d:D} : ∀ {l:List Pc},nm∉l.map (·.name)→wL nm d (nf p l)=some (nf p l++ [.str nm,d])
 | [],_=>rfl
 | f::l,h=>by
  simp only [List.map_cons,List.mem_cons,not_or]at h
  have:(f.name==nm)=false:=by simpa using fun e=>h.1 e.symm
  simp only [nf,wL,this,Bool.false_eq_true,if_false,J8 h.2,List.cons_append]
theorem J9 {p:Pg} {nm:aD} {z:D} : ∀ {l:List Pc} {f:Pc},jl nm l=some f→yx nm z (nf p l)=some (.slice .shared 1 ((p.ln nm).map encStr))
 | g::l,f,h=>by
  simp only [jl]at h
  simp only [nf,yx]
  split at h
  ·rename_i e
   rw [if_pos e,eq_of_beq e]
  ·rename_i e
   rw [if_neg e]
   exact J9 h
theorem Zw (l:List aD) : ∀ (s:List aD),pU s l=false→∀ a x b,l=a++x::b→x∉s++a:=by
 induction l with
 | nil=>intro s _ a x b e;cases a <;> cases e
 | cons y l ih=>
  intro s h a x b e
  simp only [pU]at h
  split at h
  ·cases h
  ·rename_i hy
   cases a with
   | nil=>cases e;simpa [← fF]using hy
   | cons z a=>
    cases e
    have:=ih (s++ [y]) h a x b rfl
    simpa using this
end Go.Abs

/-! Al2 -/

namespace Go.Abs
set_option maxRecDepth 8000
open Go.Proofs
theorem Ka {p:Pg} (h:(p.arity.1==0)=true):(p.scope.1==0)=true∧∀ v∈p.pre,(v.kind==4)=true→v.my p=true:=by
 unfold Pg.arity at h
 split at h
 ·rename_i e
  refine⟨e,fun v hv hk=> ?_⟩
  have : ∀ l:List Sm,((pV 6 (Es p l)).1==0)=true→∀ v∈l,(v.kind==4)=true→v.my p=true:=by
   intro l
   induction l with
   | nil=>intro _ v m;cases m
   | cons a l ih=>
    intro h v m hk
    simp only [Es]at h
    split at h
    ·cases h
    ·rename_i c
     rcases List.mem_cons.1 m with rfl | m
     ·simpa [hk]using c
     ·exact ih h v m hk
  exact this _ h v hv hk
 ·cases h
theorem R4 {p:Pg} {v:Sm} (h:v.my p=true) : ∃ f,p.find v.proc=some f:=by
 unfold Sm.my at h
 cases e:p.find v.proc with
 | some f=>exact⟨f,rfl⟩
 | none=>rw [e]at h;simp at h
def Sm.pk (p:Pg) (v:Sm):Bool:=lI v.name (p.ln v.proc) [] v.args
def EC (p:Pg):List Sm→Option Sm
 | []=>none
 | v::l=>if v.kind==4 && !(v.pk p)then some v else EC p l
def Pg.alias (p:Pg):Int×Int:=if p.arity.1==0 then pV 8 (EC p p.pre)else(1,0)
theorem Kb {p:Pg} (h:p.kA) (nm:aD):(p.ln nm).length<4611686018427387904:=by
 unfold Pg.ln
 cases hs:p.sg nm with
 | none=>dsimp only;decide
 | some f=>
  obtain⟨ll,hf⟩:=Br hs
  have h1:=(J2 ll hf).len
  have h2:=h.procs
  have h3:=(zm h (jN (p.work nm)) []).2
  have h4:(jN (p.work nm)).length*1800000≤900000*1800000:=Nat.mul_le_mul_right _ (by omega)
  have h5:(jN (p.qt nm)).length≤(p.qt nm).length:=wx _ _ (uC (j7 _).1) fun x m=>((j7 _).2 x).1 m
  dsimp only
  unfold Pg.qt at *
  simp only [List.length_nil]at h3
  omega
theorem Pe {v:Sm} (hv:v.pT):v.args.length<1000000000:=by have:=Ar.cM v.args;have:=hv.2.2;omega
theorem R5 {p:Pg} (h:p.kA) (s:St):aB Tryz.prog tv [.agg (bA p)] s (.agg [.int .i64 p.alias.1, .int .i64 p.alias.2]) s:=by
 refine aB.pure ?_ (by simp [D.bp,D.ok,gv]) rfl s
 obtain⟨tP,ta,zW⟩:=h.procs
 have tO:=fun s=>JV h s
 have dI:=fun s=>Ej (p:=p) (by omega) s
 have hL:=(qF p).1
 have XY:=qG p
 generalize hR:p.alias=R
 simp only [Pg.alias]at hR
 unfold S0
 have b0:(p.arity.1 != 0) = !(p.arity.1==0):=rfl
 rcases Bool.eq_false_or_eq_true (p.arity.1==0)with b1 | b1
 case inr=>
  rw [b1]at b0
  simp only [b1,Bool.false_eq_true,if_false]at hR
  subst hR
  refine aB.go wa rfl fun B Q hB hQ=> ?_
  have⟨hF,hP,gA,gB⟩:=bF
  repeat' (first
 | simp only [go_sem,hF,hP,gA,gB,b0,Bool.not_false]
 | (with_reducible refine CU (tO _) ?_)
 | (with_reducible refine aC hQ ?_;simp only [ay,az,Option.some.injEq,exists_eq_left',go_sem,hF,hP,gA,gB];repeat' (first | exact Ok.out | with_reducible refine aH ?_ ?_ | (simp;done))))
 rw [b1]at b0
 obtain⟨ll,ju⟩:=Ka b1
 have htw:=(C9 ll).2.1
 simp only [b1,if_true, ← hL]at hR
 refine aB.go wa rfl fun B Q hB hQ=> ?_
 have⟨hF,hP,gA,gB⟩:=bF
 repeat' (first
 | simp only [go_sem,hF,hP,gA,gB,b0,Bool.not_true]
 | (with_reducible refine CU (tO _) ?_)
 | (with_reducible refine aC hQ ?_;simp only [ay,az,Option.some.injEq,exists_eq_left',go_sem,hF,hP,gA,gB];repeat' (first | exact Ok.out | with_reducible refine aH ?_ ?_ | (simp;done))))
 refine dH 3 0 ?_ ?_ (bh.ind (ι:=List Pc×Nat×List Pc) (fun i=>p.procs.drop i.2.1=i.1∧p.procs=i.2.2++i.1) (fun i=>i.1.length)
  (fun i=> [(1, .ptr 0 0),(2, .ptr 1 0),(3, .fY 2),(15, .slice .shared 5 (p.procs.map bG)),(16, .int .i64 (p.procs.length:Int)),(17, .int .i64 (i.2.1:Int))]) (fun i=>⟨[bA p,[.int .i64 0, .int .i64 0],nf p i.2.2],[]⟩) ?_ (p.procs,0,[]) ⟨rfl,rfl⟩)
 ·(simp only [go_sem,hF,hP,gA,gB,nf];try exact bH)
 ·(simp only [go_sem,hF,hP,gA,gB,nf];try exact bH)
 rintro⟨rest,k,done⟩ ⟨h1,h2⟩ IH
 dsimp only at h1 h2
 cases rest with
 | cons a rest=>
  obtain⟨hP,g2,hF,g4⟩:=drop_cons h1
  have bW:k<4611686018427387904:=by omega
  have xG:=fun s=>RW h a.name s
  have hnm:a.name∉done.map (·.name):=by
   have:=Zw _ [] htw (done.map (·.name)) a.name (rest.map (·.name)) (by simp [Pg.pn,h2])
   simpa using this
  have hmp:wL a.name (.slice .shared 1 ((p.ln a.name).map encStr)) (nf p done)=some (nf p (done++ [a])):=by
   rw [J8 hnm,J7];rfl
  repeat' (first
 | simp only [go_sem,hF,hP,gA,gB,hmp]
 | (with_reducible refine CU (xG _) ?_)
 | (with_reducible refine aC hQ ?_;simp only [ay,az,Option.some.injEq,exists_eq_left',go_sem,hF,hP,gA,gB];repeat' (first | exact Ok.out | with_reducible refine aH ?_ ?_ | (simp;done))))
  refine dH 3 0 ?_ ?_ (IH (rest,k+1,done++ [a]) ⟨g2,by rw [h2];simp⟩ (Nat.lt_succ_self _))
  ·(simp only [go_sem,hF,hP,gA,gB,aJ bW];try exact bH)
  ·(simp only [go_sem,hF,hP,gA,gB,aJ bW];try exact bH)
 | nil=>
  have hF:=drop_nil h1
  rw [List.append_nil]at h2
  subst h2
  repeat' (first
 | simp only [go_sem,hF,hP,gA,gB,sd]
 | (with_reducible refine CU (dI _) ?_)
 | (with_reducible refine aC hQ ?_;simp only [ay,az,Option.some.injEq,exists_eq_left',go_sem,hF,hP,gA,gB];repeat' (first | exact Ok.out | with_reducible refine aH ?_ ?_ | (simp;done))))
  refine cO 3 0 (bh.ind (ι:=List Im×Nat) (fun i=>p.fC.L.drop i.2=i.1∧pV 8 (EC p (i.1.map Im.s))=R) (fun i=>i.1.length)
   (fun i=> [(1, .ptr 0 0),(2, .ptr 1 0),(3, .fY 2),(33, .slice .shared 17 (p.fC.L.map fj)),(34, .int .i64 (p.fC.L.length:Int)),(35, .int .i64 (i.2:Int))]) (fun i=>⟨[bA p,[.int .i64 0, .int .i64 0],nf p p.procs],[]⟩) ?_ (p.fC.L,0) ⟨rfl,hR⟩)
  clear hR
  rintro⟨rest,k⟩ ⟨h1,hR⟩ IH
  dsimp only at h1 hR
  cases rest with
  | nil=>
   have hF:=drop_nil h1
   simp only [List.map_nil,EC,pV]at hR
   subst hR
   repeat' (first
 | simp only [go_sem,hF,hP,gA,gB]
 | (with_reducible refine aC hQ ?_;simp only [ay,az,Option.some.injEq,exists_eq_left',go_sem,hF,hP,gA,gB];repeat' (first | exact Ok.out | with_reducible refine aH ?_ ?_ | (simp;done))))
  | cons a rest=>
   obtain⟨hP,g2,hF,g4⟩:=drop_cons h1
   have bW:k<4611686018427387904:=by omega
   have GO:a.s∈p.pre:=by rw [← hL];exact List.mem_map_of_mem (List.mem_of_getElem? hP)
   have Lx:=fun s=>VA (Pe (h.pre _ GO)) (Kb h a.s.proc) s
   simp only [List.map_cons,EC,Sm.pk]at hR
   rcases Bool.eq_false_or_eq_true (a.s.kind==4)with c1 | c1
   ·obtain⟨f,hf⟩:=R4 (ju _ GO c1)
    have hmg:=fun z=>J9 (p:=p) (z:=z) hf
    rcases Bool.eq_false_or_eq_true (lI a.s.name (p.ln a.s.proc) [] a.s.args)with c2 | c2
    ·simp only [c1,c2,Bool.not_true,Bool.and_false,Bool.false_eq_true,if_false]at hR
     repeat' (first
 | simp only [go_sem,hF,hP,gA,gB,c1,c2,hmg]
 | (with_reducible refine CU (Lx _) ?_)
 | (with_reducible refine aC hQ ?_;simp only [ay,az,Option.some.injEq,exists_eq_left',go_sem,hF,hP,gA,gB];repeat' (first | exact Ok.out | with_reducible refine aH ?_ ?_ | (simp;done))))
     refine dH 3 0 ?_ ?_ (IH (rest,k+1) ⟨g2,hR⟩ (Nat.lt_succ_self _))
     ·(simp only [go_sem,hF,hP,gA,gB,aJ bW];try exact bH)
     ·(simp only [go_sem,hF,hP,gA,gB,aJ bW];try exact bH)
    ·simp only [c1,c2,Bool.not_false,Bool.and_true,if_true,pV]at hR
     subst hR
     repeat' (first
 | simp only [go_sem,hF,hP,gA,gB,c1,c2,hmg]
 | (with_reducible refine CU (Lx _) ?_)
 | (with_reducible refine aC hQ ?_;simp only [ay,az,Option.some.injEq,exists_eq_left',go_sem,hF,hP,gA,gB];repeat' (first | exact Ok.out | with_reducible refine aH ?_ ?_ | (simp;done))))
   ·simp only [c1,Bool.false_and,Bool.false_eq_true,if_false]at hR
    repeat' (first
 | simp only [go_sem,hF,hP,gA,gB,c1]
 | (with_reducible refine CU (Lx _) ?_)
 | (with_reducible refine aC hQ ?_;simp only [ay,az,Option.some.injEq,exists_eq_left',go_sem,hF,hP,gA,gB];repeat' (first | exact Ok.out | with_reducible refine aH ?_ ?_ | (simp;done))))
    refine dH 3 0 ?_ ?_ (IH (rest,k+1) ⟨g2,hR⟩ (Nat.lt_succ_self _))
    ·(simp only [go_sem,hF,hP,gA,gB,aJ bW];try exact bH)
    ·(simp only [go_sem,hF,hP,gA,gB,aJ bW];try exact bH)
end Go.Abs

/-! Al3 -/

namespace Go.Abs
set_option maxRecDepth 8000
open Go.Proofs
def Sm.adn (p:Pg) (v:Sm):Bool:=v.my p && apM (p.ln v.proc) v.aqx v.args
def apF (p:Pg):List Sm→Option Sm
 | []=>none
 | v::l=>if v.kind==4 && !(v.adn p)then some v else apF p l
end Go.Abs

/-! Prs3 -/

namespace Go.Abs
set_option maxRecDepth 8000
open Go.Proofs
theorem Zx {n:Nat} {l:List aD} {gw:Int} {r:Rd} {p:List aD×Rd} (h:Rd.names n l gw r=some p) :
 aB Tryz.prog jg [.ptr 0 0, .slice (.tok 0) 1 (l.map encStr), .int .i64 gw] ⟨[cy r],[some l.length]⟩ (.slice (.tok 0) 1 (p.1.map encStr)) ⟨[cy p.2],[some p.1.length]⟩:=by
 refine aB.go xh rfl fun B Q hB hQ=> ?_
 have⟨hF,hP,gA,gB⟩:=bF
 repeat' (first
 | simp only [go_sem,hF,hP,gA,gB]
 | (with_reducible first | refine bq fun hc=> ?_ | refine br fun hc=> ?_ | refine bt (fun hc=> ?_) fun hc=> ?_) <;> (try simp only [hc,bs, ↓reduceIte]at h) <;> try simp only [hc]
 | (with_reducible refine aC hQ ?_;simp only [ay,az,bu,bw,go_sem,hF,hP,gA,gB];repeat' (first | exact Ok.out | with_reducible refine aH ?_ ?_ | (simp;done))))
 refine cO 1 1 (bh.ind (ι:=Nat×List aD×Rd×Nat) (fun i=>Rd.names i.1 i.2.1 gw i.2.2.1=some p∧i.2.2.2=i.2.1.length) (fun i=>i.1)
  (fun i=> [(0, .ptr 0 0),(1, .slice (.tok 0) 1 (i.2.1.map encStr)),(2, .int .i64 gw)]) (fun i=>⟨[cy i.2.2.1],[some i.2.2.2]⟩) ?_ (n,l,r,l.length) ⟨h,rfl⟩)
 rintro⟨n,l,r,k⟩ ⟨h,hk⟩ IH
 dsimp only at hk;subst hk
 cases n with
 | zero=>simp only [Rd.names]at h;cases h
 | succ n=>
  simp only [Rd.names]at h
  repeat' (first
 | simp only [go_sem,hF,hP,gA,gB]
 | (rw [Option.bind_eq_some_iff]at h;obtain⟨_,h1,h⟩:=h;first | (with_reducible refine CU (yc h1 (by with_unfolding_all rfl)) ?_) | (obtain⟨gA,po⟩:=oM h1;subst po;simp only [go_sem,hF,hP,gA,gB]) | (with_reducible refine CU (s9 h1 (by with_unfolding_all rfl)) ?_) | (with_reducible refine CU (pS h1 (by with_unfolding_all rfl)) ?_))
 | (with_reducible refine CU (kz (by with_unfolding_all rfl)) ?_)
 | (with_reducible first | refine bq fun hc=> ?_ | refine br fun hc=> ?_ | refine bt (fun hc=> ?_) fun hc=> ?_) <;> (try simp only [hc,bs, ↓reduceIte]at h) <;> try simp only [hc]
 | (with_reducible refine aC hQ ?_;(try cases h);simp only [ay,az,bu,bw,go_sem,hF,hP,gA,gB];repeat' (first | exact Ok.out | with_reducible refine aH ?_ ?_ | (simp;done))))
  refine cO 1 1 (IH (n,_,_,l.length+1) ⟨h,by simp⟩ (Nat.lt_succ_self _))
theorem L7 {n:Nat} {l:List aD} {gw:Int} {r:Rd} {p:List aD×Rd} (h:Rd.names n l gw r=some p) {s:St} {o t:Nat} (ho:s.aw[o]? = some (cy r)) (ht:s.aA[t]? = some (some l.length)) :
 aB Tryz.prog jg [.ptr o 0, .slice (.tok t) 1 (l.map encStr), .int .i64 gw] s (.slice (.tok t) 1 (p.1.map encStr)) ⟨s.aw.set o (cy p.2),s.aA.set t (some p.1.length)⟩:=
 (Zx h).afj rfl (fP r) (fP p.2) (eD l) (eD p.1) ho ht
theorem Kc {n:Nat} {r:Rd} {p:List aD×Rd} (h:Rd.labels n [] r=some p) {s:St} {o:Nat} (ho:s.aw[o]? = some (cy r)) :
 aB Tryz.prog mQ [.ptr o 0] s (.slice .shared 1 (p.1.map encStr)) ⟨s.aw.set o (cy p.2),s.aA⟩:=by
 refine aB.kl ?_ rfl (fP r) (fP p.2) (by simp [D.ok,eD,Tag.ok]) ho
 refine aB.go vE rfl fun B Q hB hQ=> ?_
 have⟨hF,hP,gA,gB⟩:=bF
 repeat' (first
 | simp only [go_sem,hF,hP,gA,gB]
 | (with_reducible first | refine bq fun hc=> ?_ | refine br fun hc=> ?_ | refine bt (fun hc=> ?_) fun hc=> ?_) <;> (try simp only [hc,bs, ↓reduceIte]at h) <;> try simp only [hc]
 | (with_reducible refine aC hQ ?_;simp only [ay,az,bu,bw,go_sem,hF,hP,gA,gB];repeat' (first | exact Ok.out | with_reducible refine aH ?_ ?_ | (simp;done))))
 refine bh.l6 3 1 rfl ?_
 simp only [go_sem,hF,hP,gA,gB]
 refine cO 1 1 (bh.ind (ι:=Nat×List aD×Rd×Nat) (fun i=>Rd.labels i.1 i.2.1 i.2.2.1=some p∧i.2.2.2=i.2.1.length) (fun i=>i.1)
  (fun i=> [(0, .ptr 0 0),(3, .slice (.tok 0) 1 (i.2.1.map encStr))]) (fun i=>⟨[cy i.2.2.1],[some i.2.2.2]⟩) ?_ (n,[],r,0) ⟨h,rfl⟩)
 rintro⟨n,l,r,k⟩ ⟨h,hk⟩ IH
 dsimp only at hk;subst hk
 cases n with
 | zero=>simp only [Rd.labels]at h;cases h
 | succ n=>
  simp only [Rd.labels,Rd.ahead]at h
  repeat' (first
 | simp only [go_sem,hF,hP,gA,gB]
 | (rw [Option.bind_eq_some_iff]at h;obtain⟨_,h1,h⟩:=h;first | (with_reducible refine CU (oT h1 (by with_unfolding_all rfl)) ?_;have hF:=sb h1) | (obtain⟨gA,po⟩:=oM h1;subst po;simp only [go_sem,hF,hP,gA,gB]) | (obtain⟨Db,hP⟩:=AY h1;simp only [go_sem,hP,hF,hP,gA,gB]))
 | (with_reducible refine CU (kz (by with_unfolding_all rfl)) ?_)
 | (with_reducible first | refine bq fun hc=> ?_ | refine br fun hc=> ?_ | refine bt (fun hc=> ?_) fun hc=> ?_) <;> (try simp only [hc,bs, ↓reduceIte]at h) <;> try simp only [hc]
 | (with_reducible refine aC hQ ?_;(try cases h);simp only [ay,az,bu,bw,go_sem,hF,hP,gA,gB];repeat' (first | exact Ok.out | with_reducible refine aH ?_ ?_ | (simp;done))))
  refine cO 1 1 (IH (n,_,_,l.length+1) ⟨h,by simp⟩ (Nat.lt_succ_self _))
end Go.Abs

/-! Prs4 -/

namespace Go.Abs
set_option maxRecDepth 8000
open Go.Proofs
theorem VB {r:Rd} {b:Bool} (h:r.Jo=some b) {s:St} {o:Nat} (ho:s.aw[o]? = some (cy r)) :
 aB Tryz.prog mR [.ptr o 0] s (.bool b) ⟨s.aw.set o (cy r),s.aA⟩:=by
 refine aB.kl ?_ rfl (fP r) (fP r) rfl ho
 unfold Rd.Jo at h
 refine aB.go vF rfl fun B Q hB hQ=> ?_
 have⟨hF,hP,gA,gB⟩:=bF
 repeat' (first
 | simp only [go_sem,hF,hP,gA,gB]
 | (rw [Option.bind_eq_some_iff]at h;obtain⟨_,h1,h⟩:=h;first | (with_reducible refine CU (oT h1 (by with_unfolding_all rfl)) ?_))
 | (with_reducible first | refine bq fun hc=> ?_ | refine br fun hc=> ?_ | refine bt (fun hc=> ?_) fun hc=> ?_) <;> (try simp only [hc,bs, ↓reduceIte]at h) <;> try simp only [hc]
 | (with_reducible refine aC hQ ?_;(try cases h);simp only [ay,az,bu,bw,go_sem,hF,hP,gA,gB];repeat' (first | exact Ok.out | with_reducible refine aH ?_ ?_ | (simp;done))))
theorem ado {m:Nat} {name proc:aD} {r:Rd} {p:Sm×Rd} (h:Rd.call m name proc r=some p) {s:St} {o:Nat} (ho:s.aw[o]? = some (cy r)) :
 aB Tryz.prog ly [.ptr o 0, .str name, .str proc] s (.agg (aU p.1)) ⟨s.aw.set o (cy p.2),s.aA⟩:=by
 refine aB.kl ?_ rfl (fP r) (fP p.2) (by simp [D.ok,km]) ho
 unfold Rd.call Rd.other at h
 refine aB.go x3 rfl fun B Q hB hQ=> ?_
 have⟨hF,hP,gA,gB⟩:=bF
 repeat' (first
 | simp only [go_sem,hF,hP,gA,gB]
 | (rw [Option.bind_eq_some_iff]at h;obtain⟨_,h1,h⟩:=h;first | (with_reducible refine CU (pS h1 (by with_unfolding_all rfl)) ?_) | (with_reducible refine CU (A8 h1 (by with_unfolding_all rfl)) ?_))
 | (with_reducible refine CU (kz (by with_unfolding_all rfl)) ?_)
 | (with_reducible first | refine bq fun hc=> ?_ | refine br fun hc=> ?_ | refine bt (fun hc=> ?_) fun hc=> ?_) <;> (try simp only [hc,bs, ↓reduceIte]at h) <;> try simp only [hc]
 | (with_reducible refine aC hQ ?_;exact jR)
 | (cases h;replace h:=hr;clear hr;(try simp only [bs, ↓reduceIte]at h))
 | (cases h;done))
 rw [Option.bind_eq_some_iff]at h
 obtain⟨q,h,hr⟩:=h
 refine bh.rY 2 10 6 rfl rfl ?_
 simp only [go_sem,hF,hP,gA,gB]
 refine cO 3 1 (bh.ind (ι:=Nat×List Ar×Rd×Nat) (fun i=>Rd.yK m i.1 i.2.1 i.2.2.1=some q∧i.2.2.2=i.2.1.length) (fun i=>i.1)
  (fun i=> [(0, .ptr 0 0),(6, .ptr 1 0),(7, .ptr 2 0)]) (fun i=>⟨[cy i.2.2.1,aU Gp,[.int .i64 0, .int .i64 4, .slice .shared 1 [], .str name, .str proc, .int .i64 0, .int .i64 0, .str [], .slice .shared 4 [], .bool false, .slice (.tok 0) 6 (i.2.1.map ej), .slice .shared 13 [], .slice .shared 13 []]],[some i.2.2.2]⟩) ?_ (m,[],_,0) ⟨h,rfl⟩)
 rintro⟨n,l,r,k⟩ ⟨h,hk⟩ IH
 dsimp only at hk;subst hk
 cases n with
 | zero=>simp only [Rd.yK]at h;cases h
 | succ n=>
  simp only [Rd.yK]at h
  repeat' (first
 | simp only [go_sem,hF,hP,gA,gB]
 | (rw [Option.bind_eq_some_iff]at h;obtain⟨_,h1,h⟩:=h;first | (with_reducible refine CU (s9 h1 (by with_unfolding_all rfl)) ?_) | (obtain⟨gA,po⟩:=oM h1;subst po;simp only [go_sem,hF,hP,gA,gB]) | (with_reducible refine CU (yc h1 (by with_unfolding_all rfl)) ?_) | (with_reducible refine CU (BN h1 (by with_unfolding_all rfl)) ?_) | (with_reducible refine CU (pS h1 (by with_unfolding_all rfl)) ?_))
 | (with_reducible refine CU (kz (by with_unfolding_all rfl)) ?_)
 | (with_reducible first | refine bq fun hc=> ?_ | refine br fun hc=> ?_ | refine bt (fun hc=> ?_) fun hc=> ?_) <;> (try simp only [hc,bs, ↓reduceIte]at h) <;> try simp only [hc]
 | (with_reducible refine aC hQ ?_;exact jR)
 | (cases h;replace h:=hr;clear hr;(try simp only [bs, ↓reduceIte]at h))
 | (cases h;done))
  ·refine cO 3 1 (IH (n,_,_,l.length+1) ⟨h,by simp⟩ (Nat.lt_succ_self _))
  ·refine cO 3 1 (IH (n,_,_,l.length+1) ⟨h,by simp⟩ (Nat.lt_succ_self _))
theorem VC {m:Nat} {r:Rd} {p:Sm×Rd} (h:Rd.named m r=some p) {s:St} {o:Nat} (ho:s.aw[o]? = some (cy r)) :
 aB Tryz.prog nG [.ptr o 0] s (.agg (aU p.1)) ⟨s.aw.set o (cy p.2),s.aA⟩:=by
 refine aB.kl ?_ rfl (fP r) (fP p.2) (by simp [D.ok,km]) ho
 unfold Rd.named Rd.ahead at h
 refine aB.go xd rfl fun B Q hB hQ=> ?_
 have⟨hF,hP,gA,gB⟩:=bF
 repeat' (first
 | simp only [go_sem,hF,hP,gA,gB]
 | (rw [Option.bind_eq_some_iff]at h;obtain⟨_,h1,h⟩:=h;first | (with_reducible refine CU (yc h1 (by with_unfolding_all rfl)) ?_) | (with_reducible refine CU (pS h1 (by with_unfolding_all rfl)) ?_) | (with_reducible refine CU (A8 h1 (by with_unfolding_all rfl)) ?_) | (with_reducible refine CU (oT h1 (by with_unfolding_all rfl)) ?_;have hF:=sb h1) | (obtain⟨Db,hP⟩:=AY h1;simp only [go_sem,hP,hF,hP,gA,gB]) | (with_reducible refine CU (BN h1 (by with_unfolding_all rfl)) ?_))
 | (with_reducible refine CU (kz (by with_unfolding_all rfl)) ?_)
 | (with_reducible refine CU (ado h (by with_unfolding_all rfl)) ?_)
 | (with_reducible first | refine bq fun hc=> ?_ | refine br fun hc=> ?_ | refine bt (fun hc=> ?_) fun hc=> ?_) <;> (try simp only [hc,bs, ↓reduceIte]at h) <;> try simp only [hc]
 | (with_reducible refine aC hQ ?_;(try cases h);simp only [ay,az,bu,bw,go_sem,hF,hP,gA,gB];repeat' (first | exact Ok.out | with_reducible refine aH ?_ ?_ | (simp;done))))
theorem Zy {m:Nat} {word:aD} {r:Rd} {p:Sm×Rd} (h:Rd.plain m word r=some p) {s:St} {o:Nat} (ho:s.aw[o]? = some (cy r)) :
 aB Tryz.prog nH [.ptr o 0, .str word] s (.agg (aU p.1)) ⟨s.aw.set o (cy p.2),s.aA⟩:=by
 refine aB.kl ?_ rfl (fP r) (fP p.2) (by simp [D.ok,km]) ho
 unfold Rd.plain at h
 refine aB.go xf rfl fun B Q hB hQ=> ?_
 have⟨hF,hP,gA,gB⟩:=bF
 repeat' (first
 | simp only [go_sem,hF,hP,gA,gB]
 | (rw [Option.bind_eq_some_iff]at h;obtain⟨_,h1,h⟩:=h;first | (with_reducible refine CU (yc h1 (by with_unfolding_all rfl)) ?_) | (with_reducible refine CU (A8 h1 (by with_unfolding_all rfl)) ?_) | (with_reducible refine CU (BN h1 (by with_unfolding_all rfl)) ?_))
 | (with_reducible first | refine bq fun hc=> ?_ | refine br fun hc=> ?_ | refine bt (fun hc=> ?_) fun hc=> ?_) <;> (try simp only [hc,bs, ↓reduceIte]at h) <;> try simp only [hc]
 | (with_reducible refine aC hQ ?_;(try cases h);simp only [ay,az,bu,bw,go_sem,hF,hP,gA,gB];repeat' (first | exact Ok.out | with_reducible refine aH ?_ ?_ | (simp;done))))
theorem R6 {m:Nat} {r:Rd} {p:Ex×Rd} (h:Rd.head m r=some p) {s:St} {o:Nat} (ho:s.aw[o]? = some (cy r)) :
 aB Tryz.prog lx [.ptr o 0] s (.agg (bx p.1)) ⟨s.aw.set o (cy p.2),s.aA⟩:=by
 refine aB.kl ?_ rfl (fP r) (fP p.2) (by simp [D.ok,gL]) ho
 unfold Rd.head at h
 refine aB.go xZ rfl fun B Q hB hQ=> ?_
 have⟨hF,hP,gA,gB⟩:=bF
 repeat' (first
 | simp only [go_sem,hF,hP,gA,gB]
 | (rw [Option.bind_eq_some_iff]at h;obtain⟨_,h1,h⟩:=h;first | (with_reducible refine CU (pS h1 (by with_unfolding_all rfl)) ?_) | (with_reducible refine CU (BN h1 (by with_unfolding_all rfl)) ?_))
 | (with_reducible first | refine bq fun hc=> ?_ | refine br fun hc=> ?_ | refine bt (fun hc=> ?_) fun hc=> ?_) <;> (try simp only [hc,bs, ↓reduceIte]at h) <;> try simp only [hc]
 | (with_reducible refine aC hQ ?_;(try cases h);simp only [ay,az,bu,bw,go_sem,hF,hP,gA,gB];repeat' (first | exact Ok.out | with_reducible refine aH ?_ ?_ | (simp;done))))
end Go.Abs

/-! Prs5 -/

namespace Go.Abs
set_option maxRecDepth 8000
open Go.Proofs
abbrev Kd (m n:Nat):Prop:=∀ {nest:Int} {body:Bool} {r:Rd} {p:(List Sm×List aD)×Rd},Rd.rows m n nest body r=some p→∀ {s:St} {o:Nat},s.aw[o]? = some (cy r)→
 aB Tryz.prog gM [.ptr o 0, .int .i64 nest, .bool body] s (.tuple [.slice .shared 13 (p.1.1.map aU), .slice .shared 1 (p.1.2.map encStr)]) ⟨s.aw.set o (cy p.2),s.aA⟩
abbrev Bu (m n:Nat):Prop:=∀ {nest:Int} {r:Rd} {p:Sm×Rd},Rd.stmt m n nest r=some p→∀ {s:St} {o:Nat},s.aw[o]? = some (cy r)→
 aB Tryz.prog oa [.ptr o 0, .int .i64 nest] s (.agg (aU p.1)) ⟨s.aw.set o (cy p.2),s.aA⟩
abbrev BR (m n:Nat):Prop:=∀ {nest:Int} {r:Rd} {p:List Sm×Rd},Rd.block m n nest r=some p→∀ {s:St} {o:Nat},s.aw[o]? = some (cy r)→
 aB Tryz.prog ji [.ptr o 0, .int .i64 nest] s (.slice .shared 13 (p.1.map aU)) ⟨s.aw.set o (cy p.2),s.aA⟩
abbrev Dc (m n:Nat):Prop:=∀ {nest:Int} {r:Rd} {p:Sm×Rd},Rd.choice m n nest r=some p→∀ {s:St} {o:Nat},s.aw[o]? = some (cy r)→
 aB Tryz.prog mS [.ptr o 0, .int .i64 nest] s (.agg (aU p.1)) ⟨s.aw.set o (cy p.2),s.aA⟩
theorem Lp {m n:Nat} (FY:BR m n):Dc m (n+1):=by
 intro nest r p h s o ho
 refine aB.kl ?_ rfl (fP r) (fP p.2) (by simp [D.ok,km]) ho
 unfold Rd.choice at h
 refine aB.go vG rfl fun B Q hB hQ=> ?_
 have⟨hF,hP,gA,gB⟩:=bF
 repeat' (first
 | simp only [go_sem,hF,hP,gA,gB]
 | (rw [Option.bind_eq_some_iff]at h;obtain⟨_,h1,h⟩:=h;first | (with_reducible refine CU (R6 h1 (by with_unfolding_all rfl)) ?_) | (with_reducible refine CU (FY h1 (by with_unfolding_all rfl)) ?_) | (with_reducible refine CU (s9 h1 (by with_unfolding_all rfl)) ?_))
 | (with_reducible first | refine bq fun hc=> ?_ | refine br fun hc=> ?_ | refine bt (fun hc=> ?_) fun hc=> ?_) <;> (try simp only [hc,bs, ↓reduceIte]at h) <;> try simp only [hc]
 | (with_reducible refine aC hQ ?_;(try cases h);simp only [ay,az,bu,bw,go_sem,hF,hP,gA,gB];repeat' (first | exact Ok.out | with_reducible refine aH ?_ ?_ | (simp;done))))
theorem Pf {m n:Nat} (Ke:Kd m n):BR m (n+1):=by
 intro nest r p h s o ho
 refine aB.kl ?_ rfl (fP r) (fP p.2) (by simp [D.ok,iH,Tag.ok]) ho
 unfold Rd.block at h
 refine aB.go xe rfl fun B Q hB hQ=> ?_
 have⟨hF,hP,gA,gB⟩:=bF
 repeat' (first
 | simp only [go_sem,hF,hP,gA,gB]
 | (rw [Option.bind_eq_some_iff]at h;obtain⟨_,h1,h⟩:=h;first | (with_reducible refine CU (pS h1 (by with_unfolding_all rfl)) ?_) | (obtain⟨gB,hik⟩:=Q5 h1;subst hik;simp only [go_sem,gB,hF,hP,gA,gB]) | (with_reducible refine CU (Ke h1 (by with_unfolding_all rfl)) ?_))
 | (with_reducible first | refine bq fun hc=> ?_ | refine br fun hc=> ?_ | refine bt (fun hc=> ?_) fun hc=> ?_) <;> (try simp only [hc,bs, ↓reduceIte]at h) <;> try simp only [hc]
 | (with_reducible refine aC hQ ?_;(try cases h);simp only [ay,az,bu,bw,go_sem,hF,hP,gA,gB];repeat' (first | exact Ok.out | with_reducible refine aH ?_ ?_ | (simp;done))))
theorem R7 {m n:Nat} (FY:BR m n) (VD:Dc m n):Bu m (n+1):=by
 intro nest r p h s o ho
 refine aB.kl ?_ rfl (fP r) (fP p.2) (by simp [D.ok,km]) ho
 unfold Rd.stmt at h
 refine aB.go xY rfl fun B Q hB hQ=> ?_
 have⟨hF,hP,gA,gB⟩:=bF
 repeat' (first
 | simp only [go_sem,hF,hP,gA,gB]
 | (rw [Option.bind_eq_some_iff]at h;obtain⟨_,h1,h⟩:=h;first | (with_reducible refine CU (VB h1 (by with_unfolding_all rfl)) ?_) | (obtain⟨gB,hik⟩:=UA h1;subst hik;simp only [go_sem,gB,hF,hP,gA,gB]) | (with_reducible refine CU (oT h1 (by with_unfolding_all rfl)) ?_;have hF:=sb h1) | (with_reducible refine CU (R6 h1 (by with_unfolding_all rfl)) ?_) | (with_reducible refine CU (FY h1 (by with_unfolding_all rfl)) ?_) | (with_reducible refine CU (Zy h1 (by with_unfolding_all rfl)) ?_) | (with_reducible refine CU (pS h1 (by with_unfolding_all rfl)) ?_) | (with_reducible refine CU (D3 h1 (by with_unfolding_all rfl)) ?_))
 | (with_reducible refine CU (VD h (by with_unfolding_all rfl)) ?_)
 | (with_reducible refine CU (VC h (by with_unfolding_all rfl)) ?_)
 | (with_reducible first | refine bq fun hc=> ?_ | refine br fun hc=> ?_ | refine bt (fun hc=> ?_) fun hc=> ?_) <;> (try simp only [hc,bs, ↓reduceIte]at h) <;> try simp only [hc]
 | (with_reducible refine aC hQ ?_;(try cases h);simp only [ay,az,bu,bw,go_sem,hF,hP,gA,gB];repeat' (first | exact Ok.out | with_reducible refine aH ?_ ?_ | (simp;done))))
theorem R8 {m n:Nat} (yn : ∀ j<n,Bu m j) {nest:Int} {r:Rd} {p:(List Sm×List aD)×Rd} (h:Rd.rows m (n+1) nest true r=some p) :
 aB Tryz.prog gM [.ptr 0 0, .int .i64 nest, .bool true] ⟨[cy r],[]⟩ (.tuple [.slice .shared 13 (p.1.1.map aU), .slice .shared 1 (p.1.2.map encStr)]) ⟨[cy p.2],[]⟩:=by
 unfold Rd.rows at h
 refine aB.go qC rfl fun B Q hB hQ=> ?_
 have⟨hF,hP,gA,gB⟩:=bF
 repeat' (first
 | simp only [go_sem,hF,hP,gA,gB]
 | (with_reducible first | refine bq fun hc=> ?_ | refine br fun hc=> ?_ | refine bt (fun hc=> ?_) fun hc=> ?_) <;> (try simp only [hc,bs, ↓reduceIte]at h) <;> try simp only [hc]
 | (with_reducible refine aC hQ ?_;simp only [ay,az,bu,bw,go_sem,hF,hP,gA,gB];repeat' (first | exact Ok.out | with_reducible refine aH ?_ ?_ | (simp;done))))
 refine bh.l6 8 13 rfl ?_
 simp only [go_sem,hF,hP,gA,gB]
 refine cO 1 1 (bh.ind (ι:=Nat×List Sm×Rd×Nat) (fun i=>Rd.vX m i.1 nest true i.2.1 i.2.2.1=some p∧i.2.2.2=i.2.1.length∧i.1≤n) (fun i=>i.1)
  (fun i=> [(0, .ptr 0 0),(1, .int .i64 nest),(2, .bool true),(8, .slice (.tok 0) 13 (i.2.1.map aU))]) (fun i=>⟨[cy i.2.2.1],[some i.2.2.2]⟩) ?_ (n,[],r,0) ⟨h,rfl,Nat.le_refl _⟩)
 rintro⟨j,l,r,k⟩ ⟨h,hk,hj⟩ IH
 dsimp only at hk hj;subst hk
 cases j with
 | zero=>simp only [Rd.vX]at h;cases h
 | succ j=>
  have Kf:=@yn j (by omega)
  simp only [Rd.vX]at h
  repeat' (first
 | simp only [go_sem,hF,hP,gA,gB,cv]
 | (rw [Option.bind_eq_some_iff]at h;obtain⟨_,h1,h⟩:=h;first | (with_reducible refine CU (Kc h1 (by with_unfolding_all rfl)) ?_) | (with_reducible refine CU (A8 h1 (by with_unfolding_all rfl)) ?_;have hF:=is_lt h1) | (obtain⟨gA,po⟩:=oM h1;subst po;simp only [go_sem,hF,hP,gA,gB]) | (with_reducible refine CU (Kf h1 (by with_unfolding_all rfl)) ?_))
 | (with_reducible refine CU (kz (by with_unfolding_all rfl)) ?_)
 | (with_reducible first | refine bq fun hc=> ?_ | refine br fun hc=> ?_ | refine bt (fun hc=> ?_) fun hc=> ?_) <;> (try simp only [hc,bs, ↓reduceIte]at h) <;> try simp only [hc]
 | (with_reducible refine aC hQ ?_;(try cases h);simp only [ay,az,bu,bw,go_sem,hF,hP,gA,gB,cv];repeat' (first | exact Ok.out | with_reducible refine aH ?_ ?_ | (simp;done))))
  ·refine dH 1 1 ?_ ?_ (IH (j,_,_,l.length+1) ⟨h,by simp,by dsimp only;omega⟩ (Nat.lt_succ_self _))
   ·(simp only [go_sem,hF,hP,gA,gB,cv];try exact bH)
   ·(simp only [go_sem,hF,hP,gA,gB,cv];try exact bH)
theorem Ph {m n:Nat} (yn : ∀ j<n,Bu m j) {nest:Int} {r:Rd} {p:(List Sm×List aD)×Rd} (h:Rd.rows m (n+1) nest false r=some p) :
 aB Tryz.prog gM [.ptr 0 0, .int .i64 nest, .bool false] ⟨[cy r],[]⟩ (.tuple [.slice .shared 13 (p.1.1.map aU), .slice .shared 1 (p.1.2.map encStr)]) ⟨[cy p.2],[]⟩:=by
 unfold Rd.rows at h
 refine aB.go qC rfl fun B Q hB hQ=> ?_
 have⟨hF,hP,gA,gB⟩:=bF
 repeat' (first
 | simp only [go_sem,hF,hP,gA,gB]
 | (with_reducible first | refine bq fun hc=> ?_ | refine br fun hc=> ?_ | refine bt (fun hc=> ?_) fun hc=> ?_) <;> (try simp only [hc,bs, ↓reduceIte]at h) <;> try simp only [hc]
 | (with_reducible refine aC hQ ?_;simp only [ay,az,bu,bw,go_sem,hF,hP,gA,gB];repeat' (first | exact Ok.out | with_reducible refine aH ?_ ?_ | (simp;done))))
 refine bh.l6 8 13 rfl ?_
 simp only [go_sem,hF,hP,gA,gB]
 refine cO 1 1 (bh.ind (ι:=Nat×List Sm×Rd×Nat) (fun i=>Rd.vX m i.1 nest false i.2.1 i.2.2.1=some p∧i.2.2.2=i.2.1.length∧i.1≤n) (fun i=>i.1)
  (fun i=> [(0, .ptr 0 0),(1, .int .i64 nest),(2, .bool false),(8, .slice (.tok 0) 13 (i.2.1.map aU))]) (fun i=>⟨[cy i.2.2.1],[some i.2.2.2]⟩) ?_ (n,[],r,0) ⟨h,rfl,Nat.le_refl _⟩)
 rintro⟨j,l,r,k⟩ ⟨h,hk,hj⟩ IH
 dsimp only at hk hj;subst hk
 cases j with
 | zero=>simp only [Rd.vX]at h;cases h
 | succ j=>
  have Kf:=@yn j (by omega)
  simp only [Rd.vX]at h
  repeat' (first
 | simp only [go_sem,hF,hP,gA,gB,cv]
 | (rw [Option.bind_eq_some_iff]at h;obtain⟨_,h1,h⟩:=h;first | (with_reducible refine CU (Kc h1 (by with_unfolding_all rfl)) ?_) | (with_reducible refine CU (A8 h1 (by with_unfolding_all rfl)) ?_;have hF:=is_lt h1) | (obtain⟨gA,po⟩:=oM h1;subst po;simp only [go_sem,hF,hP,gA,gB]) | (with_reducible refine CU (Kf h1 (by with_unfolding_all rfl)) ?_))
 | (with_reducible refine CU (kz (by with_unfolding_all rfl)) ?_)
 | (with_reducible first | refine bq fun hc=> ?_ | refine br fun hc=> ?_ | refine bt (fun hc=> ?_) fun hc=> ?_) <;> (try simp only [hc,bs, ↓reduceIte]at h) <;> try simp only [hc]
 | (with_reducible refine aC hQ ?_;(try cases h);simp only [ay,az,bu,bw,go_sem,hF,hP,gA,gB,cv];repeat' (first | exact Ok.out | with_reducible refine aH ?_ ?_ | (simp;done))))
  ·refine dH 1 1 ?_ ?_ (IH (j,_,_,l.length+1) ⟨h,by simp,by dsimp only;omega⟩ (Nat.lt_succ_self _))
   ·(simp only [go_sem,hF,hP,gA,gB,cv];try exact bH)
   ·(simp only [go_sem,hF,hP,gA,gB,cv];try exact bH)
  ·refine dH 1 1 ?_ ?_ (IH (j,_,_,l.length+1) ⟨h,by simp,by dsimp only;omega⟩ (Nat.lt_succ_self _))
   ·(simp only [go_sem,hF,hP,gA,gB,cv];try exact bH)
   ·(simp only [go_sem,hF,hP,gA,gB,cv];try exact bH)
theorem R9 {m n:Nat} (yn : ∀ j<n,Bu m j):Kd m (n+1):=by
 intro nest body r p h s o ho
 refine aB.kl ?_ rfl (fP r) (fP p.2) (by simp [D.ok,D.bp,iH,eD,Tag.ok]) ho
 cases body
 ·exact Ph yn h
 ·exact R8 yn h
theorem adq (m:Nat) : ∀ n,∀ k<n,Kd m k∧Bu m k∧BR m k∧Dc m k:=by
 intro n
 induction n with
 | zero=>intro k h;exact absurd h (Nat.not_lt_zero _)
 | succ n ih=>
  intro k hk
  cases k with
  | zero=>
   refine⟨?_, ?_, ?_, ?_⟩
   ·intro nest body r p h;simp only [Rd.rows]at h;cases h
   ·intro nest r p h;simp only [Rd.stmt]at h;cases h
   ·intro nest r p h;simp only [Rd.block]at h;cases h
   ·intro nest r p h;simp only [Rd.choice]at h;cases h
  | succ k=>
   obtain⟨h1,h2,h3,h4⟩:=ih k (by omega)
   exact⟨R9 fun j hj=>(ih j (by omega)).2.1,R7 h3 h4,Pf h1,Lp h3⟩
theorem Ke {m n:Nat} {nest:Int} {body:Bool} {r:Rd} {p:(List Sm×List aD)×Rd} (h:Rd.rows m n nest body r=some p) {s:St} {o:Nat} (ho:s.aw[o]? = some (cy r)) :
 aB Tryz.prog gM [.ptr o 0, .int .i64 nest, .bool body] s (.tuple [.slice .shared 13 (p.1.1.map aU), .slice .shared 1 (p.1.2.map encStr)]) ⟨s.aw.set o (cy p.2),s.aA⟩:=
 (adq m (n+1) n (Nat.lt_succ_self _)).1 h ho
end Go.Abs

/-! Prs6 -/

namespace Go.Abs
set_option maxRecDepth 8000
open Go.Proofs
theorem wA {m:Nat} {B:fz} {Q:Exit→Tm→St→Prop} {row:List D} {name:aD} {p:Pc×Rd} (hB:B.s = ⟨[row],[]⟩) (hQ:iP 1 0 [(2,some (true,5))] (.agg (bG p.1)) ⟨[cy p.2],[]⟩=Q)
 (ps:List Pm) (r:Rd) (h:Rd.yL m name ps r=some p) :
 bh Tryz.prog B 56 acm (gK 2 (jv (gD Tryz.prog B 56 acn Q) Q)) [(0, .ptr 0 0),(2, .ptr 1 0),(3, .ptr 2 0)]
  ⟨[cy r,[.str [], .slice .full 0 [], .slice .full 0 [], .slice .full 0 [], .slice .full 0 []],[.str name, .slice .shared 2 (ps.map fS), .slice .full 0 [], .slice .full 0 [], .slice .full 0 []]],[]⟩:=by
 have⟨hF,hP,gA,gB⟩:=bF
 unfold Rd.yL at h
 rw [Option.bind_eq_some_iff]at h
 obtain⟨q,h,hr⟩:=h
 refine bh.rY 2 2 1 rfl rfl ?_
 simp only [go_sem,hF,hP,gA,gB]
 refine cO 3 1 (bh.ind (ι:=Nat×List aD×Rd×Nat) (fun i=>Rd.vars m i.1 i.2.1 i.2.2.1=some q∧i.2.2.2=i.2.1.length) (fun i=>i.1)
  (fun i=> [(0, .ptr 0 0),(2, .ptr 1 0),(3, .ptr 2 0)]) (fun i=>⟨[cy i.2.2.1,[.str [], .slice .full 0 [], .slice .full 0 [], .slice .full 0 [], .slice .full 0 []],[.str name, .slice .shared 2 (ps.map fS), .slice (.tok 0) 1 (i.2.1.map encStr), .slice .full 0 [], .slice .full 0 []]],[some i.2.2.2]⟩) ?_ (m,[],r,0) ⟨h,rfl⟩)
 rintro⟨n,l,r,k⟩ ⟨h,hk⟩ IH
 dsimp only at hk;subst hk
 cases n with
 | zero=>simp only [Rd.vars]at h;cases h
 | succ n=>
  simp only [Rd.vars]at h
  repeat' (first
 | simp only [go_sem,hF,hP,gA,gB]
 | (rw [Option.bind_eq_some_iff]at h;obtain⟨_,h1,h⟩:=h;first | (with_reducible refine CU (s9 h1 (by with_unfolding_all rfl)) ?_) | (with_reducible refine CU (L7 h1 (by with_unfolding_all rfl) (by with_unfolding_all rfl)) ?_) | (with_reducible refine CU (Ke h1 (by with_unfolding_all rfl)) ?_))
 | (with_reducible first | refine bq fun hc=> ?_ | refine br fun hc=> ?_ | refine bt (fun hc=> ?_) fun hc=> ?_) <;> (try simp only [hc,bs, ↓reduceIte]at h) <;> try simp only [hc]
 | (with_reducible refine aC hQ ?_;exact jR)
 | (cases h;replace h:=hr;clear hr;(try simp only [bs, ↓reduceIte]at h))
 | (cases h;done))
  refine cO 3 1 (IH (n,_,_,_) ⟨h,rfl⟩ (Nat.lt_succ_self _))
theorem adr {m:Nat} {r:Rd} {p:Pc×Rd} (h:Rd.proc m r=some p) {s:St} {o:Nat} (ho:s.aw[o]? = some (cy r)) :
 aB Tryz.prog n9 [.ptr o 0] s (.agg (bG p.1)) ⟨s.aw.set o (cy p.2),s.aA⟩:=by
 refine aB.kl ?_ rfl (fP r) (fP p.2) (by simp [D.ok,uY]) ho
 unfold Rd.proc Rd.other at h
 refine aB.go x7 rfl fun B Q hB hQ=> ?_
 have⟨hF,hP,gA,gB⟩:=bF
 repeat' (first
 | simp only [go_sem,hF,hP,gA,gB]
 | (rw [Option.bind_eq_some_iff]at h;obtain⟨_,h1,h⟩:=h;first | (with_reducible refine CU (pS h1 (by with_unfolding_all rfl)) ?_) | (with_reducible refine CU (A8 h1 (by with_unfolding_all rfl)) ?_) | (with_reducible refine CU (yc h1 (by with_unfolding_all rfl)) ?_))
 | (with_reducible refine CU (kz (by with_unfolding_all rfl)) ?_)
 | (with_reducible first | refine bq fun hc=> ?_ | refine br fun hc=> ?_ | refine bt (fun hc=> ?_) fun hc=> ?_) <;> (try simp only [hc,bs, ↓reduceIte]at h) <;> try simp only [hc]
 | (with_reducible refine aC hQ ?_;simp only [ay,az,bu,bw,go_sem,hF,hP,gA,gB];repeat' (first | exact Ok.out | with_reducible refine aH ?_ ?_ | (simp;done))))
 ·refine cO 3 0 (wA hB hQ [] _ h)
 ·rename_i nm _ _ _ _ _
  rw [Option.bind_eq_some_iff]at h
  obtain⟨q,h,hr⟩:=h
  refine bh.rY 2 1 2 rfl rfl ?_
  simp only [go_sem,hF,hP,gA,gB]
  refine cO 3 1 (bh.ind (ι:=Nat×List Pm×Rd×Nat) (fun i=>Rd.params i.1 i.2.1 i.2.2.1=some q∧i.2.2.2=i.2.1.length) (fun i=>i.1)
   (fun i=> [(0, .ptr 0 0),(2, .ptr 1 0),(3, .ptr 2 0)]) (fun i=>⟨[cy i.2.2.1,[.str [], .slice .full 0 [], .slice .full 0 [], .slice .full 0 [], .slice .full 0 []],[.str nm.1, .slice (.tok 0) 2 (i.2.1.map fS), .slice .full 0 [], .slice .full 0 [], .slice .full 0 []]],[some i.2.2.2]⟩) ?_ (m,[],_,0) ⟨h,rfl⟩)
  rintro⟨n,l,r,k⟩ ⟨h,hk⟩ IH
  dsimp only at hk;subst hk
  cases n with
  | zero=>simp only [Rd.params]at h;cases h
  | succ n=>
   simp only [Rd.params]at h
   repeat' (first
 | simp only [go_sem,hF,hP,gA,gB]
 | (rw [Option.bind_eq_some_iff]at h;obtain⟨_,h1,h⟩:=h;first | (with_reducible refine CU (s9 h1 (by with_unfolding_all rfl)) ?_) | (with_reducible refine CU (yc h1 (by with_unfolding_all rfl)) ?_) | (obtain⟨gA,po⟩:=oM h1;subst po;simp only [go_sem,hF,hP,gA,gB]) | (with_reducible refine CU (pS h1 (by with_unfolding_all rfl)) ?_))
 | (with_reducible refine CU (kz (by with_unfolding_all rfl)) ?_)
 | (with_reducible first | refine bq fun hc=> ?_ | refine br fun hc=> ?_ | refine bt (fun hc=> ?_) fun hc=> ?_) <;> (try simp only [hc,bs, ↓reduceIte]at h) <;> try simp only [hc]
 | (with_reducible refine aC hQ ?_;exact jR)
 | (cases h;replace h:=hr;clear hr;(try simp only [bs, ↓reduceIte]at h))
 | (cases h;done))
   ·refine cO 3 1 (IH (n,_,_,l.length+1) ⟨h,by simp⟩ (Nat.lt_succ_self _))
   ·refine cO 3 0 (wA hB hQ _ _ h)
   ·refine cO 3 0 (wA hB hQ _ _ h)
 ·refine cO 3 0 (wA hB hQ [] _ h)
theorem Kg {m:Nat} {B:fz} {Q:Exit→Tm→St→Prop} {row:List D} {g:List aD} {p:Pg×Rd} (hB:B.s = ⟨[row],[]⟩) (hQ:iP 1 0 [(2,some (true,2))] (.agg (bA p.1)) ⟨[cy p.2],[]⟩=Q)
 (r:Rd) {k:Nat} (h:((Rd.procs m k [] r).bind fun q=>some (⟨g,q.1⟩,q.2))=some p) :
 bh Tryz.prog B 49 QXH (gK 2 (jv (gD Tryz.prog B 49 QXQ Q) Q)) [(0, .ptr 0 0),(2, .ptr 1 0),(3, .ptr 2 0)]
  ⟨[cy r,[.slice .full 0 [], .slice .full 0 []],[.slice .shared 1 (g.map encStr), .slice .full 0 []]],[]⟩:=by
 have⟨hF,hP,gA,gB⟩:=bF
 rw [Option.bind_eq_some_iff]at h
 obtain⟨q,h,hr⟩:=h
 cases hr
 refine bh.rY 2 1 5 rfl rfl ?_
 simp only [go_sem,hF,hP,gA,gB]
 refine cO 3 1 (bh.ind (ι:=Nat×List Pc×Rd×Nat) (fun i=>Rd.procs m i.1 i.2.1 i.2.2.1=some q∧i.2.2.2=i.2.1.length) (fun i=>i.1)
  (fun i=> [(0, .ptr 0 0),(2, .ptr 1 0),(3, .ptr 2 0)]) (fun i=>⟨[cy i.2.2.1,[.slice .full 0 [], .slice .full 0 []],[.slice .shared 1 (g.map encStr), .slice (.tok 0) 5 (i.2.1.map bG)]],[some i.2.2.2]⟩) ?_ (k,[],r,0) ⟨h,rfl⟩)
 rintro⟨n,l,r,k⟩ ⟨h,hk⟩ IH
 dsimp only at hk;subst hk
 cases n with
 | zero=>simp only [Rd.procs]at h;cases h
 | succ n=>
  simp only [Rd.procs,Rd.Q7,Rd.Jp]at h
  repeat' (first
 | simp only [go_sem,hF,hP,gA,gB]
 | (rw [Option.bind_eq_some_iff]at h;obtain⟨_,h1,h⟩:=h;first | (with_reducible refine CU (A8 h1 (by with_unfolding_all rfl)) ?_;have hF:=is_lt h1) | (with_reducible refine CU (D3 h1 (by with_unfolding_all rfl)) ?_) | (with_reducible refine CU (adr h1 (by with_unfolding_all rfl)) ?_) | (obtain⟨gA,po⟩:=oM h1;subst po;simp only [go_sem,hF,hP,gA,gB]) | (with_reducible refine CU (oT h1 (by with_unfolding_all rfl)) ?_))
 | (with_reducible refine CU (kz (by with_unfolding_all rfl)) ?_)
 | (with_reducible first | refine bq fun hc=> ?_ | refine br fun hc=> ?_ | refine bt (fun hc=> ?_) fun hc=> ?_) <;> (try simp only [hc,bs, ↓reduceIte]at h) <;> try simp only [hc]
 | (with_reducible refine aC hQ ?_;(try cases h);simp only [ay,az,bu,bw,go_sem,hF,hP,gA,gB];repeat' (first | exact Ok.out | with_reducible refine aH ?_ ?_ | (simp;done))))
  ·refine cO 3 1 (IH (n,_,_,l.length+1) ⟨h,by simp⟩ (Nat.lt_succ_self _))
end Go.Abs

/-! Lex3 -/

namespace Go.Abs
set_option maxRecDepth 8000
open Go.Proofs
theorem VE {c:UInt8} {r:aD} (h:pz c=true):0<qY (c::r):=by simp [qY,h]
theorem Pj {text:aD} (hl:text.length≤100000) {B:fz} {Q:Exit→Tm→St→Prop} {p:List fH×Int×Int} (hB:B.s=S0)
 (hQ:iP 0 0 [(2,none),(3,some (true,2))] (.tuple [.slice .shared 4 (p.1.map eC), .agg (mW p.2)]) ⟨[],[]⟩=Q)
 {n pos:Nat} {out:List fH} (ho:out.length≤2000) (hp:pos≤text.length) (IH:sI text B Q p (n+1))
 {c:UInt8} {r:aD} (h1:text.drop pos=c::r) (hb:zO c=false) (hc:((c.toNat:Int)==35)=false) (hL:qX c=false) (hD:pz c=true) (hn:(c::r).length<n+1) (h:nD (n+1) pos (c::r) out=p) :
 gD Tryz.prog B 152 A4 (jM Tryz.prog B 152 vl Q) (oo text out pos) (pe out):=by
 have gA:0<1:=Nat.zero_lt_one
 have gB:0<1:=Nat.zero_lt_one
 have hP:=(drop_cons h1).1
 have g4:=(drop_cons h1).2.2.2
 have hF:pos<4611686018427387904:=by omega
 have eQ:decide ((pos:Int)≥(text.length:Int))=false:=by simp;omega
 have dR:(out.length+1)*41≤bl:=by simp only [bl];omega
 have bW:=JF (c::r)
 have uN:=VE (r:=r) hD
 have qD:(c::r).length=text.length - pos:=by rw [← h1,List.length_drop]
 have qV:=JG (c::r)
 simp only [nD,hb,Bool.false_eq_true, ↓reduceIte,hc,OE,hL,hD]at h
 simp only [zO,Bool.or_eq_false_iff]at hb
 generalize hK:qY (c::r)=k at h bW uN qV
 have hlen:((c::r).take k).length=k:=by rw [List.length_take];omega
 have mj:=fun s=>UL qV (by rw [hlen];omega) s
 simp only [hlen]at h
 have gf:((c::r).take k)[0]? = some c:=by rw [List.getElem?_take_of_lt uN];rfl
 have e2:(0:Int)≤(pos:Int)∧(pos:Int)≤((pos+k:Nat):Int)∧((pos+k:Nat):Int)≤(text.length:Int):=by omega
 have e3:(text.take (pos+k)).drop pos=(c::r).take k:=by rw [yV,h1]
 have fin:text.drop (pos+k)=(c::r).drop k:=by rw [← h1,List.drop_drop]
 have uy:((c::r).drop k).length<n:=by rw [List.length_drop];omega
 have L8:pos+k≤text.length:=by omega
 repeat' (first
 | simp only [go_sem,hF,hP,gA,gB,eQ,hb.1.1.1,hb.1.1.2,hb.1.2,hb.2,hc,hL,hD]
 | (with_reducible refine CU (iw _ _) ?_)
 | (with_reducible refine CU (jH _ _) ?_)
 | (with_reducible refine cj (l:=3) (by with_unfolding_all rfl) ?_)
 | (with_reducible refine aC hQ ?_;simp only [ay,az,bu,bw,go_sem,hF,hP,gA,gB];repeat' (first | exact Ok.out | with_reducible refine aH ?_ ?_ | (simp;done))))
 refine cO 2 1 (bh.ind (ι:=aD×Nat) (fun i=>text.drop i.2=i.1∧i.2+qY i.1=pos+k) (fun i=>i.1.length)
  (fun i=>oo text out i.2) (fun i=>⟨[[.int .i64 0, .int .i64 0],[.int .i64 0, .str [], .int .i64 0, .int .i64 (pos:Int)]],[some out.length]⟩) ?_ (c::r,pos) ⟨h1,by dsimp only;omega⟩)
 rintro⟨rest,j⟩ ⟨j1,j2⟩ IHl
 dsimp only at j1 j2
 have step : ∀ d pY,rest=d::pY→pz d=true→gD Tryz.prog B 152 QV6 (jv (bh Tryz.prog B 152 QV6
  (gK 3 (jv (gD Tryz.prog B 152 QVZ (jM Tryz.prog B 152 vl Q)) (jM Tryz.prog B 152 vl Q))))
  (gK 3 (jv (gD Tryz.prog B 152 QVZ (jM Tryz.prog B 152 vl Q)) (jM Tryz.prog B 152 vl Q))))
  (oo text out j) ⟨[[.int .i64 0, .int .i64 0],[.int .i64 0, .str [], .int .i64 0, .int .i64 (pos:Int)]],[some out.length]⟩:=by
  rintro d pY rfl hd
  obtain⟨hP,g2,eQ,g5⟩:=drop_cons j1
  have hF:j<4611686018427387904:=by omega
  simp only [qY,hd, ↓reduceIte]at j2
  repeat' (first
 | simp only [go_sem,hF,hP,gA,gB,eQ,hd]
 | (with_reducible refine CU (jH _ _) ?_)
 | (with_reducible first | refine bq fun hc=> ?_ | refine br fun hc=> ?_ | refine bt (fun hc=> ?_) fun hc=> ?_) <;> (try simp only [hc,bs, ↓reduceIte]at h) <;> try simp only [hc]
 | (with_reducible refine aC hQ ?_;(try cases h);simp only [ay,az,bu,bw,go_sem,hF,hP,gA,gB,eQ,hd];repeat' (first | exact Ok.out | with_reducible refine aH ?_ ?_ | (simp;done))))
  refine cO 2 1 (IHl (pY,j+1) ⟨g2,by dsimp only;omega⟩ (Nat.lt_succ_self _))
 cases rest with
 | nil=>
  have eQ:=drop_nil j1
  simp only [qY,Nat.add_zero]at j2
  subst j2
  by_cases hz:k > 1∧(c.toNat:Int)=48
  ·have z1:decide ((k:Int) > 1)=true:=by simp;omega
   have z2:((c.toNat:Int)==48)=true:=by simp [hz.2]
   rw [if_pos hz]at h
   dsimp only at h
   repeat' (first
 | simp only [go_sem,hF,hP,gA,gB,eQ,e2,e3,hlen,gf,z1,z2]
 | (with_reducible refine cj (l:=4) (by with_unfolding_all rfl) ?_)
 | (with_reducible refine cj (l:=5) (by with_unfolding_all rfl) ?_)
 | (with_reducible first | refine bq fun hc=> ?_ | refine br fun hc=> ?_ | refine bt (fun hc=> ?_) fun hc=> ?_) <;> (try simp only [hc,bs, ↓reduceIte]at h) <;> try simp only [hc]
 | (with_reducible refine aC hQ ?_;(try cases h);simp only [ay,az,bu,bw,go_sem,hF,hP,gA,gB,eQ,e2,e3,hlen,gf,z1,z2];repeat' (first | exact Ok.out | with_reducible refine aH ?_ ?_ | (simp;done))))
  ·have ED:decide ((k:Int) > 1)=false∨(decide ((k:Int) > 1)=true∧((c.toNat:Int)==48)=false):=by
    by_cases h1:k > 1
    ·right;exact⟨by simp;omega,by simp;intro h2;exact hz ⟨h1,h2⟩⟩
    ·left;simp;omega
   rw [if_neg hz]at h
   cases hw:vY 0 ((c::r).take k)with
   | none=>
    have Kh:oU ((c::r).take k)=(0,false):=by simp only [oU,hw]
    simp only [Kh]at mj
    simp only [hw]at h
    rcases ED with z1 | ⟨z1,z2⟩
    ·repeat' (first
 | simp only [go_sem,hF,hP,gA,gB,eQ,e2,e3,hlen,gf,z1]
 | (with_reducible refine CU (mj _) ?_)
 | (with_reducible refine cj (l:=4) (by with_unfolding_all rfl) ?_)
 | (with_reducible refine cj (l:=5) (by with_unfolding_all rfl) ?_)
 | (with_reducible first | refine bq fun hc=> ?_ | refine br fun hc=> ?_ | refine bt (fun hc=> ?_) fun hc=> ?_) <;> (try simp only [hc,bs, ↓reduceIte]at h) <;> try simp only [hc]
 | (with_reducible refine aC hQ ?_;(try cases h);simp only [ay,az,bu,bw,go_sem,hF,hP,gA,gB,eQ,e2,e3,hlen,gf,z1];repeat' (first | exact Ok.out | with_reducible refine aH ?_ ?_ | (simp;done))))
    ·repeat' (first
 | simp only [go_sem,hF,hP,gA,gB,eQ,e2,e3,hlen,gf,z1,z2]
 | (with_reducible refine CU (mj _) ?_)
 | (with_reducible refine cj (l:=4) (by with_unfolding_all rfl) ?_)
 | (with_reducible refine cj (l:=5) (by with_unfolding_all rfl) ?_)
 | (with_reducible first | refine bq fun hc=> ?_ | refine br fun hc=> ?_ | refine bt (fun hc=> ?_) fun hc=> ?_) <;> (try simp only [hc,bs, ↓reduceIte]at h) <;> try simp only [hc]
 | (with_reducible refine aC hQ ?_;(try cases h);simp only [ay,az,bu,bw,go_sem,hF,hP,gA,gB,eQ,e2,e3,hlen,gf,z1,z2];repeat' (first | exact Ok.out | with_reducible refine aH ?_ ?_ | (simp;done))))
   | some v=>
    have Kh:oU ((c::r).take k)=(v,true):=by simp only [oU,hw]
    simp only [Kh]at mj
    simp only [hw,hlen]at h
    by_cases rK:out.length=2000
    ·have j8:((out.length:Int)==2000)=true:=by simp [rK]
     simp only [rK, ↓reduceIte]at h
     rcases ED with z1 | ⟨z1,z2⟩
     ·repeat' (first
 | simp only [go_sem,hF,hP,gA,gB,eQ,e2,e3,hlen,gf,z1,j8]
 | (with_reducible refine CU (mj _) ?_)
 | (with_reducible refine cj (l:=4) (by with_unfolding_all rfl) ?_)
 | (with_reducible refine cj (l:=5) (by with_unfolding_all rfl) ?_)
 | (with_reducible first | refine bq fun hc=> ?_ | refine br fun hc=> ?_ | refine bt (fun hc=> ?_) fun hc=> ?_) <;> (try simp only [hc,bs, ↓reduceIte]at h) <;> try simp only [hc]
 | (with_reducible refine aC hQ ?_;(try cases h);simp only [ay,az,bu,bw,go_sem,hF,hP,gA,gB,eQ,e2,e3,hlen,gf,z1,j8];repeat' (first | exact Ok.out | with_reducible refine aH ?_ ?_ | (simp;done))))
     ·repeat' (first
 | simp only [go_sem,hF,hP,gA,gB,eQ,e2,e3,hlen,gf,z1,z2,j8]
 | (with_reducible refine CU (mj _) ?_)
 | (with_reducible refine cj (l:=4) (by with_unfolding_all rfl) ?_)
 | (with_reducible refine cj (l:=5) (by with_unfolding_all rfl) ?_)
 | (with_reducible first | refine bq fun hc=> ?_ | refine br fun hc=> ?_ | refine bt (fun hc=> ?_) fun hc=> ?_) <;> (try simp only [hc,bs, ↓reduceIte]at h) <;> try simp only [hc]
 | (with_reducible refine aC hQ ?_;(try cases h);simp only [ay,az,bu,bw,go_sem,hF,hP,gA,gB,eQ,e2,e3,hlen,gf,z1,z2,j8];repeat' (first | exact Ok.out | with_reducible refine aH ?_ ?_ | (simp;done))))
    ·have j8:((out.length:Int)==2000)=false:=by simp;omega
     have Cq : ∀ t:fH,(out++ [t]).length≤2000:=by intro t;simp;omega
     simp only [rK, ↓reduceIte]at h
     rcases ED with z1 | ⟨z1,z2⟩
     ·repeat' (first
 | simp only [go_sem,hF,hP,gA,gB,eQ,e2,e3,hlen,gf,z1,j8,dR]
 | (with_reducible refine CU (mj _) ?_)
 | (with_reducible refine cj (l:=4) (by with_unfolding_all rfl) ?_)
 | (with_reducible refine cj (l:=5) (by with_unfolding_all rfl) ?_)
 | (refine IH.to hB fin h uy (Cq _) L8 (Nat.lt_succ_self _) ?_ ?_ ?_ <;> ((try simp only [go_sem,hF,hP,gA,gB]);repeat' (first | exact Ok.out | with_reducible refine aH ?_ ?_ | omega | (simp;done)));done)
 | (with_reducible first | refine bq fun hc=> ?_ | refine br fun hc=> ?_ | refine bt (fun hc=> ?_) fun hc=> ?_) <;> (try simp only [hc,bs, ↓reduceIte]at h) <;> try simp only [hc]
 | (with_reducible refine aC hQ ?_;(try cases h);simp only [ay,az,bu,bw,go_sem,hF,hP,gA,gB,eQ,e2,e3,hlen,gf,z1,j8,dR];repeat' (first | exact Ok.out | with_reducible refine aH ?_ ?_ | (simp;done))))
     ·repeat' (first
 | simp only [go_sem,hF,hP,gA,gB,eQ,e2,e3,hlen,gf,z1,z2,j8,dR]
 | (with_reducible refine CU (mj _) ?_)
 | (with_reducible refine cj (l:=4) (by with_unfolding_all rfl) ?_)
 | (with_reducible refine cj (l:=5) (by with_unfolding_all rfl) ?_)
 | (refine IH.to hB fin h uy (Cq _) L8 (Nat.lt_succ_self _) ?_ ?_ ?_ <;> ((try simp only [go_sem,hF,hP,gA,gB]);repeat' (first | exact Ok.out | with_reducible refine aH ?_ ?_ | omega | (simp;done)));done)
 | (with_reducible first | refine bq fun hc=> ?_ | refine br fun hc=> ?_ | refine bt (fun hc=> ?_) fun hc=> ?_) <;> (try simp only [hc,bs, ↓reduceIte]at h) <;> try simp only [hc]
 | (with_reducible refine aC hQ ?_;(try cases h);simp only [ay,az,bu,bw,go_sem,hF,hP,gA,gB,eQ,e2,e3,hlen,gf,z1,z2,j8,dR];repeat' (first | exact Ok.out | with_reducible refine aH ?_ ?_ | (simp;done))))
 | cons d rest=>
  obtain⟨hP,g2,eQ,g5⟩:=drop_cons j1
  have hF:j<4611686018427387904:=by omega
  cases hd:pz d
  ·simp only [qY,hd,Bool.false_eq_true, ↓reduceIte,Nat.add_zero]at j2
   subst j2
   by_cases hz:k > 1∧(c.toNat:Int)=48
   ·have z1:decide ((k:Int) > 1)=true:=by simp;omega
    have z2:((c.toNat:Int)==48)=true:=by simp [hz.2]
    rw [if_pos hz]at h
    dsimp only at h
    repeat' (first
 | simp only [go_sem,hF,hP,gA,gB,eQ,hd,e2,e3,hlen,gf,z1,z2]
 | (with_reducible refine CU (jH _ _) ?_)
 | (with_reducible refine cj (l:=4) (by with_unfolding_all rfl) ?_)
 | (with_reducible refine cj (l:=5) (by with_unfolding_all rfl) ?_)
 | (with_reducible first | refine bq fun hc=> ?_ | refine br fun hc=> ?_ | refine bt (fun hc=> ?_) fun hc=> ?_) <;> (try simp only [hc,bs, ↓reduceIte]at h) <;> try simp only [hc]
 | (with_reducible refine aC hQ ?_;(try cases h);simp only [ay,az,bu,bw,go_sem,hF,hP,gA,gB,eQ,hd,e2,e3,hlen,gf,z1,z2];repeat' (first | exact Ok.out | with_reducible refine aH ?_ ?_ | (simp;done))))
   ·have ED:decide ((k:Int) > 1)=false∨(decide ((k:Int) > 1)=true∧((c.toNat:Int)==48)=false):=by
     by_cases h1:k > 1
     ·right;exact⟨by simp;omega,by simp;intro h2;exact hz ⟨h1,h2⟩⟩
     ·left;simp;omega
    rw [if_neg hz]at h
    cases hw:vY 0 ((c::r).take k)with
    | none=>
     have Kh:oU ((c::r).take k)=(0,false):=by simp only [oU,hw]
     simp only [Kh]at mj
     simp only [hw]at h
     rcases ED with z1 | ⟨z1,z2⟩
     ·repeat' (first
 | simp only [go_sem,hF,hP,gA,gB,eQ,hd,e2,e3,hlen,gf,z1]
 | (with_reducible refine CU (jH _ _) ?_)
 | (with_reducible refine CU (mj _) ?_)
 | (with_reducible refine cj (l:=4) (by with_unfolding_all rfl) ?_)
 | (with_reducible refine cj (l:=5) (by with_unfolding_all rfl) ?_)
 | (with_reducible first | refine bq fun hc=> ?_ | refine br fun hc=> ?_ | refine bt (fun hc=> ?_) fun hc=> ?_) <;> (try simp only [hc,bs, ↓reduceIte]at h) <;> try simp only [hc]
 | (with_reducible refine aC hQ ?_;(try cases h);simp only [ay,az,bu,bw,go_sem,hF,hP,gA,gB,eQ,hd,e2,e3,hlen,gf,z1];repeat' (first | exact Ok.out | with_reducible refine aH ?_ ?_ | (simp;done))))
     ·repeat' (first
 | simp only [go_sem,hF,hP,gA,gB,eQ,hd,e2,e3,hlen,gf,z1,z2]
 | (with_reducible refine CU (jH _ _) ?_)
 | (with_reducible refine CU (mj _) ?_)
 | (with_reducible refine cj (l:=4) (by with_unfolding_all rfl) ?_)
 | (with_reducible refine cj (l:=5) (by with_unfolding_all rfl) ?_)
 | (with_reducible first | refine bq fun hc=> ?_ | refine br fun hc=> ?_ | refine bt (fun hc=> ?_) fun hc=> ?_) <;> (try simp only [hc,bs, ↓reduceIte]at h) <;> try simp only [hc]
 | (with_reducible refine aC hQ ?_;(try cases h);simp only [ay,az,bu,bw,go_sem,hF,hP,gA,gB,eQ,hd,e2,e3,hlen,gf,z1,z2];repeat' (first | exact Ok.out | with_reducible refine aH ?_ ?_ | (simp;done))))
    | some v=>
     have Kh:oU ((c::r).take k)=(v,true):=by simp only [oU,hw]
     simp only [Kh]at mj
     simp only [hw,hlen]at h
     by_cases rK:out.length=2000
     ·have j8:((out.length:Int)==2000)=true:=by simp [rK]
      simp only [rK, ↓reduceIte]at h
      rcases ED with z1 | ⟨z1,z2⟩
      ·repeat' (first
 | simp only [go_sem,hF,hP,gA,gB,eQ,hd,e2,e3,hlen,gf,z1,j8]
 | (with_reducible refine CU (jH _ _) ?_)
 | (with_reducible refine CU (mj _) ?_)
 | (with_reducible refine cj (l:=4) (by with_unfolding_all rfl) ?_)
 | (with_reducible refine cj (l:=5) (by with_unfolding_all rfl) ?_)
 | (with_reducible first | refine bq fun hc=> ?_ | refine br fun hc=> ?_ | refine bt (fun hc=> ?_) fun hc=> ?_) <;> (try simp only [hc,bs, ↓reduceIte]at h) <;> try simp only [hc]
 | (with_reducible refine aC hQ ?_;(try cases h);simp only [ay,az,bu,bw,go_sem,hF,hP,gA,gB,eQ,hd,e2,e3,hlen,gf,z1,j8];repeat' (first | exact Ok.out | with_reducible refine aH ?_ ?_ | (simp;done))))
      ·repeat' (first
 | simp only [go_sem,hF,hP,gA,gB,eQ,hd,e2,e3,hlen,gf,z1,z2,j8]
 | (with_reducible refine CU (jH _ _) ?_)
 | (with_reducible refine CU (mj _) ?_)
 | (with_reducible refine cj (l:=4) (by with_unfolding_all rfl) ?_)
 | (with_reducible refine cj (l:=5) (by with_unfolding_all rfl) ?_)
 | (with_reducible first | refine bq fun hc=> ?_ | refine br fun hc=> ?_ | refine bt (fun hc=> ?_) fun hc=> ?_) <;> (try simp only [hc,bs, ↓reduceIte]at h) <;> try simp only [hc]
 | (with_reducible refine aC hQ ?_;(try cases h);simp only [ay,az,bu,bw,go_sem,hF,hP,gA,gB,eQ,hd,e2,e3,hlen,gf,z1,z2,j8];repeat' (first | exact Ok.out | with_reducible refine aH ?_ ?_ | (simp;done))))
     ·have j8:((out.length:Int)==2000)=false:=by simp;omega
      have Cq : ∀ t:fH,(out++ [t]).length≤2000:=by intro t;simp;omega
      simp only [rK, ↓reduceIte]at h
      rcases ED with z1 | ⟨z1,z2⟩
      ·repeat' (first
 | simp only [go_sem,hF,hP,gA,gB,eQ,hd,e2,e3,hlen,gf,z1,j8,dR]
 | (with_reducible refine CU (jH _ _) ?_)
 | (with_reducible refine CU (mj _) ?_)
 | (with_reducible refine cj (l:=4) (by with_unfolding_all rfl) ?_)
 | (with_reducible refine cj (l:=5) (by with_unfolding_all rfl) ?_)
 | (refine IH.to hB fin h uy (Cq _) L8 (Nat.lt_succ_self _) ?_ ?_ ?_ <;> ((try simp only [go_sem,hF,hP,gA,gB]);repeat' (first | exact Ok.out | with_reducible refine aH ?_ ?_ | omega | (simp;done)));done)
 | (with_reducible first | refine bq fun hc=> ?_ | refine br fun hc=> ?_ | refine bt (fun hc=> ?_) fun hc=> ?_) <;> (try simp only [hc,bs, ↓reduceIte]at h) <;> try simp only [hc]
 | (with_reducible refine aC hQ ?_;(try cases h);simp only [ay,az,bu,bw,go_sem,hF,hP,gA,gB,eQ,hd,e2,e3,hlen,gf,z1,j8,dR];repeat' (first | exact Ok.out | with_reducible refine aH ?_ ?_ | (simp;done))))
      ·repeat' (first
 | simp only [go_sem,hF,hP,gA,gB,eQ,hd,e2,e3,hlen,gf,z1,z2,j8,dR]
 | (with_reducible refine CU (jH _ _) ?_)
 | (with_reducible refine CU (mj _) ?_)
 | (with_reducible refine cj (l:=4) (by with_unfolding_all rfl) ?_)
 | (with_reducible refine cj (l:=5) (by with_unfolding_all rfl) ?_)
 | (refine IH.to hB fin h uy (Cq _) L8 (Nat.lt_succ_self _) ?_ ?_ ?_ <;> ((try simp only [go_sem,hF,hP,gA,gB]);repeat' (first | exact Ok.out | with_reducible refine aH ?_ ?_ | omega | (simp;done)));done)
 | (with_reducible refine aC hQ ?_;simp only [ay,az,bu,bw,go_sem,hF,hP,gA,gB];repeat' (first | exact Ok.out | with_reducible refine aH ?_ ?_ | (simp;done))))
  ·exact step d rest rfl hd
theorem L9 {text:aD} (hl:text.length≤100000) {B:fz} {Q:Exit→Tm→St→Prop} {p:List fH×Int×Int} (hB:B.s=S0)
 (hQ:iP 0 0 [(2,none),(3,some (true,2))] (.tuple [.slice .shared 4 (p.1.map eC), .agg (mW p.2)]) ⟨[],[]⟩=Q)
 {n pos:Nat} {out:List fH} (ho:out.length≤2000) (hp:pos≤text.length) (IH:sI text B Q p (n+1)) {rest:aD} (h1:text.drop pos=rest) (h:nD (n+1) pos rest out=p) (hn:rest.length<n+1) :
 gD Tryz.prog B 152 A4 (jM Tryz.prog B 152 vl Q) (oo text out pos) (pe out):=by
 cases rest with
 | nil=>exact lex_nil hl hB hQ ho hp IH h1 h
 | cons c r=>
  cases hb:zO c
  ·cases hc:((c.toNat:Int)==35)
   ·cases hL:qX c
    ·cases hD:pz c
     ·exact UN hl hB hQ ho hp IH h1 hb hc hL hD hn h
     ·exact Pj hl hB hQ ho hp IH h1 hb hc hL hD hn h
    ·exact UO hl hB hQ ho hp IH h1 hb hc hL hn h
   ·exact OY hl hB hQ ho hp IH h1 hb hc hn h
  ·exact Rf hl hB hQ ho hp IH h1 hb hn h
theorem ads {text:aD} (hl:text.length≤100000) {B:fz} {Q:Exit→Tm→St→Prop} {p:List fH×Int×Int} (hB:B.s=S0)
 (hQ:iP 0 0 [(2,none),(3,some (true,2))] (.tuple [.slice .shared 4 (p.1.map eC), .agg (mW p.2)]) ⟨[],[]⟩=Q) : ∀ N,sI text B Q p N:=by
 intro N
 induction N with
 | zero=>intro n pos rest out _ _ _ _ _ h;exact absurd h (Nat.not_lt_zero _)
 | succ N ih=>
  intro n pos rest out h1 h h2 h3 h4 h5
  cases n with
  | zero=>omega
  | succ n=>
   refine n7.o7 ?_
   show gD Tryz.prog B 152 A4 (jM Tryz.prog B 152 vl Q) (oo text out pos) (pe out)
   exact L9 hl hB hQ h3 h4 (fun n' pos' pY cB a b c d e f=>ih n' pos' pY cB a b c d e (by omega)) h1 h h2
theorem agK (text:aD) (hl:text.length<4611686018427387904) (s:St) :
 aB Tryz.prog A0 [.str text] s (.tuple [.slice .shared 4 ((oN text).1.map eC), .agg (mW (oN text).2)]) s:=by
 refine aB.pure ?_ rfl (by simp [D.ok,D.bp,Jk,Tag.ok,mW]) s
 generalize h:oN text=p
 unfold oN at h
 unfold S0
 refine aB.go Lf rfl fun B Q hB hQ=> ?_
 have⟨hF,hP,gA,gB⟩:=bF
 repeat' (first
 | simp only [go_sem,hF,hP,gA,gB]
 | (with_reducible first | refine bq fun hc=> ?_ | refine br fun hc=> ?_ | refine bt (fun hc=> ?_) fun hc=> ?_) <;> (try simp only [hc,bs, ↓reduceIte]at h) <;> try simp only [hc]
 | (with_reducible refine aC hQ ?_;(try cases h);simp only [ay,az,bu,bw,go_sem,hF,hP,gA,gB];repeat' (first | exact Ok.out | with_reducible refine aH ?_ ?_ | (simp;done))))
 refine n7.once (Sem.kE ?_)
 simp only [go_sem,hF,hP,gA,gB]
 refine Sem.kE ?_
 simp only [go_sem,hF,hP,gA,gB]
 refine Sem.kE ?_
 simp only [go_sem,hF,hP,gA,gB]
 refine Sem.kE ?_
 by_cases hz:text.length > 100000
 ·have nX:decide ((text.length:Int) > 100000)=true:=by simp;omega
  rw [if_pos hz]at h
  repeat' (first
 | simp only [go_sem,hF,hP,gA,gB,nX]
 | (with_reducible first | refine bq fun hc=> ?_ | refine br fun hc=> ?_ | refine bt (fun hc=> ?_) fun hc=> ?_) <;> (try simp only [hc,bs, ↓reduceIte]at h) <;> try simp only [hc]
 | (with_reducible refine aC hQ ?_;(try cases h);simp only [ay,az,bu,bw,go_sem,hF,hP,gA,gB,nX];repeat' (first | exact Ok.out | with_reducible refine aH ?_ ?_ | (simp;done))))
 ·have nX:decide ((text.length:Int) > 100000)=false:=by simp;omega
  rw [if_neg hz]at h
  have mH:text.length≤100000:=by omega
  have hQ':iP 0 0 [(2,none),(3,some (true,2))] (.tuple [.slice .shared 4 (p.1.map eC), .agg (mW p.2)]) ⟨[],[]⟩=Q:=hQ
  repeat' (first
 | simp only [go_sem,hF,hP,gA,gB,nX]
 | (with_reducible refine aC hQ ?_;simp only [ay,az,bu,bw,go_sem,hF,hP,gA,gB];repeat' (first | exact Ok.out | with_reducible refine aH ?_ ?_ | (simp;done))))
  refine Sem.kE ?_
  simp only [go_sem,hF,hP,gA,gB]
  refine Sem.l6 4 4 rfl ?_
  simp only [go_sem,hF,hP,gA,gB]
  refine Sem.re _ _ 2 1 (by rw [hB];exact mq rfl) (by rw [hB];exact mq rfl) ?_ ?_ (iz (L9 mH hB hQ' (out:= []) (pos:=0) (by simp) (Nat.zero_le _) (ads mH hB hQ' _) rfl h (by simp)))
  ·(simp only [go_sem,hF,hP,gA,gB];repeat' (first | exact Ok.out | with_reducible refine aH ?_ ?_))
  ·(simp only [go_sem,hF,hP,gA,gB];repeat' (first | exact Ok.out | with_reducible refine aH ?_ ?_))
end Go.Abs

/-! MirParse -/

namespace Go.Abs
def X4 (l:List fH):Rd:=⟨l,0,0,0,0⟩
def EE (m:Nat) (text:aD):Option (Pg×Int×Int):=
 if(oN text).2.1 != 0 then some (DM,(oN text).2)
 else(Rd.program m (X4 (oN text).1)).bind fun p=>if p.2.code != 0 then some (DM,p.2.code,p.2.vW)else(p.1.Fs).bind fun q=>some (q,0,0)
def ax2 (m:Nat) (text:aD):Option (Ex×Int×Int):=
 if(oN text).2.1 != 0 then some (nu,(oN text).2)
 else(Rd.whole m (X4 (oN text).1)).bind fun x=>x.2.Jp.bind fun b=>
  if b then(x.2.bad 3).bind fun r=>if !r.good then some (nu,r.code,r.vW)else some (x.1,0,0)
  else if !x.2.good then some (nu,x.2.code,x.2.vW)else some (x.1,0,0)
end Go.Abs

/-! Prs7 -/

namespace Go.Abs
set_option maxRecDepth 8000
open Go.Proofs
theorem Sb {m:Nat} {r:Rd} {p:Pg×Rd} (h:Rd.program m r=some p) {s:St} {o:Nat} (ho:s.aw[o]? = some (cy r)) :
 aB Tryz.prog l9 [.ptr o 0] s (.agg (bA p.1)) ⟨s.aw.set o (cy p.2),s.aA⟩:=by
 refine aB.kl ?_ rfl (fP r) (fP p.2) (by simp [D.ok,gv]) ho
 unfold Rd.program at h
 refine aB.go vm rfl fun B Q hB hQ=> ?_
 have⟨hF,hP,gA,gB⟩:=bF
 repeat' (first
 | simp only [go_sem,hF,hP,gA,gB]
 | (with_reducible refine aC hQ ?_;simp only [ay,az,bu,bw,go_sem,hF,hP,gA,gB];repeat' (first | exact Ok.out | with_reducible refine aH ?_ ?_ | (simp;done))))
 rw [Option.bind_eq_some_iff]at h
 obtain⟨q,h,hr⟩:=h
 refine bh.rY 2 0 1 rfl rfl ?_
 simp only [go_sem,hF,hP,gA,gB]
 refine cO 3 1 (bh.ind (ι:=Nat×List aD×Rd×Nat) (fun i=>Rd.globals m i.1 i.2.1 i.2.2.1=some q∧i.2.2.2=i.2.1.length) (fun i=>i.1)
  (fun i=> [(0, .ptr 0 0),(2, .ptr 1 0),(3, .ptr 2 0)]) (fun i=>⟨[cy i.2.2.1,[.slice .full 0 [], .slice .full 0 []],[.slice (.tok 0) 1 (i.2.1.map encStr), .slice .full 0 []]],[some i.2.2.2]⟩) ?_ (m,[],r,0) ⟨h,rfl⟩)
 rintro⟨n,l,r,k⟩ ⟨h,hk⟩ IH
 dsimp only at hk;subst hk
 cases n with
 | zero=>simp only [Rd.globals]at h;cases h
 | succ n=>
  simp only [Rd.globals]at h
  repeat' (first
 | simp only [go_sem,hF,hP,gA,gB]
 | (rw [Option.bind_eq_some_iff]at h;obtain⟨_,h1,h⟩:=h;first | (with_reducible refine CU (s9 h1 (by with_unfolding_all rfl)) ?_) | (with_reducible refine CU (L7 h1 (by with_unfolding_all rfl) (by with_unfolding_all rfl)) ?_))
 | (with_reducible first | refine bq fun hc=> ?_ | refine br fun hc=> ?_ | refine bt (fun hc=> ?_) fun hc=> ?_) <;> (try simp only [hc,bs, ↓reduceIte]at h) <;> try simp only [hc]
 | (with_reducible refine aC hQ ?_;exact jR)
 | (cases h;replace h:=hr;clear hr;(try simp only [bs, ↓reduceIte]at h))
 | (cases h;done))
  ·refine cO 3 1 (IH (n,_,_,_) ⟨h,rfl⟩ (Nat.lt_succ_self _))
  ·refine cO 3 0 (Kg hB hQ _ h)
theorem YtiopamakecmpkaaGreat {m:Nat} {text:aD} {p:Pg×Int×Int} (h:EE m text=some p) (hl:text.length<4611686018427387904) (s:St) :
 aB Tryz.prog tw [.str text] s (.tuple [.agg (bA p.1), .agg (mW p.2)]) s:=by
 refine aB.pure ?_ rfl (by simp [D.ok,D.bp,gv,mW]) s
 unfold EE at h
 have adt:=agK text hl
 generalize oN text=t at h adt
 unfold S0
 refine aB.go DS rfl fun B Q hB hQ=> ?_
 have⟨hF,hP,gA,gB⟩:=bF
 repeat' (first
 | simp only [go_sem,hF,hP,gA,gB,X4]
 | (rw [Option.bind_eq_some_iff]at h;obtain⟨_,h1,h⟩:=h;first | (with_reducible refine CU (Sb h1 (by with_unfolding_all rfl)) ?_) | (with_reducible refine CU (Vn h1 _) ?_))
 | (with_reducible refine CU (adt _) ?_)
 | (with_reducible first | refine bq fun hc=> ?_ | refine br fun hc=> ?_ | refine bt (fun hc=> ?_) fun hc=> ?_) <;> (try simp only [hc,bs, ↓reduceIte]at h) <;> try simp only [hc]
 | (with_reducible refine aC hQ ?_;(try cases h);simp only [ay,az,bu,bw,go_sem,hF,hP,gA,gB,X4];repeat' (first | exact Ok.out | with_reducible refine aH ?_ ?_ | (simp;done))))
end Go.Abs

/-! Room1 -/

namespace Go.Abs
set_option maxRecDepth 8000
open Go.Proofs
def xp (n k:Int):Int:=if Int.tmod n k<0 then Int.tmod n k+k else Int.tmod n k
theorem ZA (n:Int) {k:Int} (hk:1≤k):0≤xp n k∧xp n k<k:=by
 unfold xp
 have h1:=Int.tmod_lt_of_pos n (by omega:0<k)
 have h2:=Int.lt_tmod_of_pos n (by omega:0<k)
 split <;> omega
theorem agL (n:Int) {k:Int} (hk:1≤k) (bW:k<1000000) (s:St):aB Tryz.prog yN [.int .i64 n, .int .i64 k] s (.int .i64 (xp n k)) s:=by
 refine aB.pure ?_ rfl rfl s
 have h1:=Int.tmod_lt_of_pos n (by omega:0<k)
 have h2:=Int.lt_tmod_of_pos n (by omega:0<k)
 have c1:decide (k<1)=false:=by simp;omega
 have w1:IntKind.wrap .i64 (Int.tmod n k)=Int.tmod n k:=cV (by omega) (by omega)
 have w2:IntKind.wrap .i64 (Int.tmod n k+k)=Int.tmod n k+k:=cV (by omega) (by omega)
 have k0:(k=0)=False:=by simp;omega
 unfold S0
 by_cases hm:Int.tmod n k<0
 ·have c2:decide (Int.tmod n k<0)=true:=by simp;omega
  rw [show xp n k=Int.tmod n k+k from if_pos hm]
  refine aB.go A3 rfl fun B Q hB hQ=> ?_
  have⟨hF,hP,gA,gB⟩:=bF
  repeat' (first
 | simp only [go_sem,hF,hP,gA,gB,c1,c2,w1,w2,k0]
 | (with_reducible refine aC hQ ?_;simp only [ay,az,Option.some.injEq,exists_eq_left',go_sem,hF,hP,gA,gB];repeat' (first | exact Ok.out | with_reducible refine aH ?_ ?_ | (simp;done))))
 ·have c2:decide (Int.tmod n k<0)=false:=by simp;omega
  rw [show xp n k=Int.tmod n k from if_neg hm]
  refine aB.go A3 rfl fun B Q hB hQ=> ?_
  have⟨hF,hP,gA,gB⟩:=bF
  repeat' (first
 | simp only [go_sem,hF,hP,gA,gB,c1,c2,w1,w2,k0]
 | (with_reducible refine aC hQ ?_;simp only [ay,az,Option.some.injEq,exists_eq_left',go_sem,hF,hP,gA,gB];repeat' (first | exact Ok.out | with_reducible refine aH ?_ ?_ | (simp;done))))
def agM (t:aD):Nat→aD
 | 0=> []
 | n+1=>agM t n++t
def two (i:Nat):aD:= [UInt8.ofNat (48+i / 10),UInt8.ofNat (48+i % 10)]
def adu (ahead:aD):Nat→aD
 | 0=> []
 | n+1=>(if n=0 then adu ahead n else adu ahead n++ [44])++(ahead++ [97]++two n)
def adv:Nat→aD
 | 0=> []
 | n+1=>adv n++([112,114,111,99,32,112]++two n++ [40,41,123,125])
end Go.Abs

/-! Al4 -/

namespace Go.Abs
set_option maxRecDepth 8000
open Go.Proofs
def nJ (k:Int):List It→List Int
 | []=> []
 | i::l=>if k==0 || i.s.kind==k then i.s.id::nJ k l else nJ k l
theorem Dd (k:Int) : ∀ l,(nJ k l).length≤l.length
 | []=>Nat.le_refl _
 | i::l=>by
  have:=Dd k l
  simp only [nJ]
  split <;> simp <;> omega
theorem agN {p:Pg} (hs:Pc.aR p.procs<4611686018427387000) (XY:p.all.length≤1000) (kd:Int) (s:St):aB Tryz.prog yO [.agg (bA p), .int .i64 kd] s (.slice .shared 1 ((nJ kd p.all).map im)) s:=by
 refine aB.pure ?_ (by simp [D.bp,D.ok,gv]) (by simp only [D.ok,Tag.ok,vr];rfl) s
 have qB:=fun s=>XN hs s
 obtain⟨R,hR⟩ : ∃ R,nJ kd p.all=R:=⟨_,rfl⟩
 rw [hR]
 have hRl:R.length≤1000:=by rw [← hR];exact Nat.le_trans (Dd kd p.all) XY
 unfold S0
 refine aB.go Jt rfl fun B Q hB hQ=> ?_
 have⟨hF,hP,gA,gB⟩:=bF
 repeat' (first
 | simp only [go_sem,hF,hP,gA,gB]
 | (with_reducible refine CU (qB _) ?_)
 | (with_reducible refine aC hQ ?_;simp only [ay,az,Option.some.injEq,exists_eq_left',go_sem,hF,hP,gA,gB];repeat' (first | exact Ok.out | with_reducible refine aH ?_ ?_ | (simp;done))))
 refine bh.l6 5 1 rfl ?_
 simp only [go_sem,hF,hP,gA,gB]
 refine cO 1 1 (bh.ind (ι:=List It×Nat×List Int×Nat) (fun i=>p.all.drop i.2.1=i.1∧i.2.2.1++nJ kd i.1=R∧i.2.2.2=i.2.2.1.length) (fun i=>i.1.length)
  (fun i=> [(1, .int .i64 kd),(2, .ptr 0 0),(5, .slice (.tok 0) 1 (i.2.2.1.map im)),(9, .slice .shared 16 (p.all.map fB)),(10, .int .i64 (p.all.length:Int)),(11, .int .i64 (i.2.1:Int))]) (fun i=>⟨[bA p],[some i.2.2.2]⟩) ?_ (p.all,0,[],0) ⟨rfl,hR,rfl⟩)
 clear hR
 rintro⟨rest,k,out,n'⟩ ⟨h1,h2,h3⟩ IH
 dsimp only at h1 h2 h3
 subst h3
 have kO:out.length≤1000:=by have:=congrArg List.length h2;rw [List.length_append]at this;omega
 cases rest with
 | nil=>
  have hF:=drop_nil h1
  simp only [nJ,List.append_nil]at h2
  subst h2
  repeat' (first
 | simp only [go_sem,hF,hP,gA,gB]
 | (with_reducible refine aC hQ ?_;simp only [ay,az,Option.some.injEq,exists_eq_left',go_sem,hF,hP,gA,gB];repeat' (first | exact Ok.out | with_reducible refine aH ?_ ?_ | (simp;done))))
 | cons a rest=>
  obtain⟨hP,g2,hF,g4⟩:=drop_cons h1
  have bW:k<4611686018427387904:=by omega
  have gA:(out.length+1)*9≤bl:=by unfold bl;omega
  simp only [nJ]at h2
  rcases Bool.eq_false_or_eq_true (kd==0)with c1 | c1
  ·simp only [c1,Bool.true_or,if_true]at h2
   repeat' (first
 | simp only [go_sem,hF,hP,gA,gB,c1]
 | (with_reducible refine aC hQ ?_;simp only [ay,az,Option.some.injEq,exists_eq_left',go_sem,hF,hP,gA,gB];repeat' (first | exact Ok.out | with_reducible refine aH ?_ ?_ | (simp;done))))
   refine dH 1 1 ?_ ?_ (IH (rest,k+1,out++ [a.s.id],out.length+1) ⟨g2,by rw [← h2];simp,by simp⟩ (Nat.lt_succ_self _))
   ·(simp only [go_sem,hF,hP,gA,gB,aJ bW,List.map_append,List.map_cons,List.map_nil,im];try exact bH)
   ·(simp only [go_sem,hF,hP,gA,gB,aJ bW,List.map_append,List.map_cons,List.map_nil,im];try exact bH)
  rcases Bool.eq_false_or_eq_true (a.s.kind==kd)with c2 | c2
  ·simp only [c1,c2,Bool.or_true,if_true]at h2
   repeat' (first
 | simp only [go_sem,hF,hP,gA,gB,c1,c2]
 | (with_reducible refine aC hQ ?_;simp only [ay,az,Option.some.injEq,exists_eq_left',go_sem,hF,hP,gA,gB];repeat' (first | exact Ok.out | with_reducible refine aH ?_ ?_ | (simp;done))))
   refine dH 1 1 ?_ ?_ (IH (rest,k+1,out++ [a.s.id],out.length+1) ⟨g2,by rw [← h2];simp,by simp⟩ (Nat.lt_succ_self _))
   ·(simp only [go_sem,hF,hP,gA,gB,aJ bW,List.map_append,List.map_cons,List.map_nil,im];try exact bH)
   ·(simp only [go_sem,hF,hP,gA,gB,aJ bW,List.map_append,List.map_cons,List.map_nil,im];try exact bH)
  ·simp only [c1,c2,Bool.or_false,Bool.false_eq_true,if_false]at h2
   repeat' (first
 | simp only [go_sem,hF,hP,gA,gB,c1,c2]
 | (with_reducible refine aC hQ ?_;simp only [ay,az,Option.some.injEq,exists_eq_left',go_sem,hF,hP,gA,gB];repeat' (first | exact Ok.out | with_reducible refine aH ?_ ?_ | (simp;done))))
   refine dH 1 1 ?_ ?_ (IH (rest,k+1,out,_) ⟨g2,h2,rfl⟩ (Nat.lt_succ_self _))
   ·(simp only [go_sem,hF,hP,gA,gB,aJ bW];try exact bH)
   ·(simp only [go_sem,hF,hP,gA,gB,aJ bW];try exact bH)
def ou (l:List Int) (n:Int):Int:=match l[(xp n l.length).toNat]? with | some x=>x | none=>0
theorem adw {l:List Int} (hl:l.length<1000000) (n:Int) (s:St):aB Tryz.prog wU [.slice .shared 1 (l.map im), .int .i64 n] s (.int .i64 (ou l n)) s:=by
 refine aB.pure ?_ (by simp [D.bp,D.ok,Tag.ok,vr]) rfl s
 unfold S0
 by_cases hz:l.length=0
 ·have ED:l = []:=List.eq_nil_of_length_eq_zero hz
  have c1:((l.length:Int)==0)=true:=by rw [hz];rfl
  have e:ou l n=0:=by unfold ou;rw [ED];rfl
  rw [e]
  refine aB.go zP rfl fun B Q hB hQ=> ?_
  have⟨hF,hP,gA,gB⟩:=bF
  repeat' (first
 | simp only [go_sem,hF,hP,gA,gB,c1]
 | (with_reducible refine aC hQ ?_;simp only [ay,az,Option.some.injEq,exists_eq_left',go_sem,hF,hP,gA,gB];repeat' (first | exact Ok.out | with_reducible refine aH ?_ ?_ | (simp;done))))
 ·have c1:((l.length:Int)==0)=false:=by simp only [beq_eq_false_iff_ne,ne_eq];omega
  have hk:=ZA n (k:=(l.length:Int)) (by omega)
  have hm:=fun s=>agL n (k:=(l.length:Int)) (by omega) (by omega) s
  obtain⟨j,hj⟩ : ∃ j:Nat,xp n l.length=(j:Int):=⟨(xp n l.length).toNat,(Int.toNat_of_nonneg hk.1).symm⟩
  have LI:j<l.length:=by have h2:=hk.2;rw [hj]at h2;omega
  obtain⟨f,hf⟩ : ∃ f,l[j]? = some f:=⟨_,List.getElem?_eq_getElem LI⟩
  have e:ou l n=f:=by unfold ou;rw [hj,Int.toNat_natCast,hf]
  rw [hj]at hm
  rw [e]
  have zJ:decide ((j:Int)<(l.length:Int))=true:=by simp;omega
  refine aB.go zP rfl fun B Q hB hQ=> ?_
  have⟨hF,hP,gA,gB⟩:=bF
  repeat' (first
 | simp only [go_sem,hF,hP,gA,gB,c1,hf,zJ,im]
 | (with_reducible refine CU (hm _) ?_)
 | (with_reducible refine aC hQ ?_;simp only [ay,az,Option.some.injEq,exists_eq_left',go_sem,hF,hP,gA,gB];repeat' (first | exact Ok.out | with_reducible refine aH ?_ ?_ | (simp;done))))
def uF (id:Int):List It→Option It
 | []=>none
 | i::l=>if i.s.id==id then some i else uF id l
def ov (id:Int):List Pc→Option (It×aD)
 | []=>none
 | f::l=>match uF id f.flat with | some i=>some (i,f.name) | none=>ov id l
def it0:It:=⟨Gp,0,0,false⟩
def nK (r:Option (It×aD)):D:=match r with
 | some (i,nm)=> .tuple [.agg (fB i), .str nm, .bool true]
 | none=> .tuple [.agg (fB it0), .str [], .bool false]
theorem ZB (r:Option (It×aD)):D.ok 0 0 (nK r)=true:=by cases r <;> simp [nK,D.ok,D.bp,O1]
theorem EF:fB it0 = [.int .i64 0, .int .i64 0, .slice .shared 1 [], .str [], .str [], .int .i64 0, .int .i64 0, .str [], .slice .shared 4 [], .bool false, .slice .shared 6 [], .slice .shared 13 [], .slice .shared 13 [], .int .i64 0, .int .i64 0, .bool false]:=nd rfl
theorem ady {p:Pg} (hs:Pc.aR p.procs<4611686018427387000) (hp:p.procs.length<1000000) (id:Int) (s:St):aB Tryz.prog wZ [.agg (bA p), .int .i64 id] s (nK (ov id p.procs)) s:=by
 refine aB.pure ?_ (by simp [D.bp,D.ok,gv]) (ZB _) s
 obtain⟨R,hR⟩ : ∃ R,ov id p.procs=R:=⟨_,rfl⟩
 rw [hR]
 unfold S0
 refine aB.go HA rfl fun B Q hB hQ=> ?_
 have⟨hF,hP,gA,gB⟩:=bF
 repeat' (first
 | simp only [go_sem,hF,hP,gA,gB]
 | (with_reducible first | refine bq fun hc=> ?_ | refine br fun hc=> ?_ | refine bt (fun hc=> ?_) fun hc=> ?_) <;> (try simp only [hc,bs, ↓reduceIte]at h) <;> try simp only [hc]
 | (with_reducible refine aC hQ ?_;simp only [ay,az,bu,bw,go_sem,hF,hP,gA,gB];repeat' (first | exact Ok.out | with_reducible refine aH ?_ ?_ | (simp;done))))
 refine cO 2 0 (bh.ind (ι:=List Pc×Nat) (fun i=>p.procs.drop i.2=i.1∧ov id i.1=R) (fun i=>i.1.length)
  (fun i=> [(1, .int .i64 id),(2, .ptr 0 0),(4, .ptr 1 0),(5, .str []),(6, .bool false),(12, .slice .shared 5 (p.procs.map bG)),(13, .int .i64 (p.procs.length:Int)),(14, .int .i64 (i.2:Int))]) (fun i=>⟨[bA p,[.int .i64 0, .int .i64 0, .slice .full 0 [], .str [], .str [], .int .i64 0, .int .i64 0, .str [], .slice .full 0 [], .bool false, .slice .full 0 [], .slice .full 0 [], .slice .full 0 [], .int .i64 0, .int .i64 0, .bool false]],[]⟩) ?_ (p.procs,0) ⟨rfl,hR⟩)
 clear hR
 rintro⟨rest,k⟩ ⟨h1,h2⟩ IH
 dsimp only at h1 h2
 cases rest with
 | nil=>
  have hF:=drop_nil h1
  simp only [ov]at h2
  subst h2
  repeat' (first
 | simp only [go_sem,hF,hP,gA,gB,nK,EF]
 | (with_reducible first | refine bq fun hc=> ?_ | refine br fun hc=> ?_ | refine bt (fun hc=> ?_) fun hc=> ?_) <;> (try simp only [hc,bs, ↓reduceIte]at h) <;> try simp only [hc]
 | (with_reducible refine aC hQ ?_;simp only [ay,az,bu,bw,go_sem,hF,hP,gA,gB,nK,EF];repeat' (first | exact Ok.out | with_reducible refine aH ?_ ?_ | (simp;done))))
 | cons f rest=>
  obtain⟨hP,g2,hF,g4⟩:=drop_cons h1
  have bW:k<4611686018427387904:=by omega
  have iU:=fun s=>Rl (f:=f) (by have:=Pc.bT (List.mem_of_getElem? hP);unfold Pc.size at this;omega) s
  have ayq:=Pc.JK f
  simp only [ov]at h2
  repeat' (first
 | simp only [go_sem,hF,hP,gA,gB]
 | (with_reducible refine CU (iU _) ?_)
 | (with_reducible refine aC hQ ?_;simp only [ay,az,bu,bw,go_sem,hF,hP,gA,gB];repeat' (first | exact Ok.out | with_reducible refine aH ?_ ?_ | (simp;done))))
  refine cO 3 0 (bh.ind (ι:=List It×Nat) (fun i=>f.flat.drop i.2=i.1∧(match uF id i.1 with | some i=>some (i,f.name) | none=>ov id rest)=R) (fun i=>i.1.length)
   (fun i=> [(1, .int .i64 id),(2, .ptr 0 0),(4, .ptr 1 0),(5, .str []),(6, .bool false),(8, .ptr 2 0),(12, .slice .shared 5 (p.procs.map bG)),(13, .int .i64 (p.procs.length:Int)),(14, .int .i64 (k:Int)),
    (19, .slice .shared 16 (f.flat.map fB)),(20, .int .i64 (f.flat.length:Int)),(21, .int .i64 (i.2:Int))]) (fun i=>⟨[bA p,[.int .i64 0, .int .i64 0, .slice .full 0 [], .str [], .str [], .int .i64 0, .int .i64 0, .str [], .slice .full 0 [], .bool false, .slice .full 0 [], .slice .full 0 [], .slice .full 0 [], .int .i64 0, .int .i64 0, .bool false],bG f],[]⟩) ?_ (f.flat,0) ⟨rfl,h2⟩)
  clear h2
  rintro⟨qc,k'⟩ ⟨j1,j2⟩ Bb
  dsimp only at j1 j2
  cases qc with
  | nil=>
   have Db:=drop_nil j1
   simp only [uF]at j2
   repeat' (first
 | simp only [go_sem,hF,hP,gA,gB,Db]
 | (with_reducible first | refine bq fun hc=> ?_ | refine br fun hc=> ?_ | refine bt (fun hc=> ?_) fun hc=> ?_) <;> (try simp only [hc,bs, ↓reduceIte]at h) <;> try simp only [hc]
 | (with_reducible refine aC hQ ?_;simp only [ay,az,bu,bw,go_sem,hF,hP,gA,gB,Db];repeat' (first | exact Ok.out | with_reducible refine aH ?_ ?_ | (simp;done))))
   refine dH 2 0 ?_ ?_ (IH (rest,k+1) ⟨g2,j2⟩ (Nat.lt_succ_self _))
   ·(simp only [go_sem,hF,hP,gA,gB,aJ bW];try exact bH)
   ·(simp only [go_sem,hF,hP,gA,gB,aJ bW];try exact bH)
  | cons a qc=>
   obtain⟨mh,j3,td,j4⟩:=drop_cons j1
   have qD:k'<4611686018427387904:=by omega
   simp only [uF]at j2
   rcases Bool.eq_false_or_eq_true (a.s.id==id)with c1 | c1
   ·simp only [c1,if_true]at j2
    subst j2
    repeat' (first
 | simp only [go_sem,hF,hP,gA,gB,mh,td,c1,nK,EF]
 | (with_reducible first | refine bq fun hc=> ?_ | refine br fun hc=> ?_ | refine bt (fun hc=> ?_) fun hc=> ?_) <;> (try simp only [hc,bs, ↓reduceIte]at h) <;> try simp only [hc]
 | (with_reducible refine aC hQ ?_;simp only [ay,az,bu,bw,go_sem,hF,hP,gA,gB,mh,td,c1,nK,EF];repeat' (first | exact Ok.out | with_reducible refine aH ?_ ?_ | (simp;done))))
   ·simp only [c1,Bool.false_eq_true,if_false]at j2
    repeat' (first
 | simp only [go_sem,hF,hP,gA,gB,mh,td,c1]
 | (with_reducible refine aC hQ ?_;simp only [ay,az,bu,bw,go_sem,hF,hP,gA,gB];repeat' (first | exact Ok.out | with_reducible refine aH ?_ ?_ | (simp;done))))
    refine dH 3 0 ?_ ?_ (Bb (qc,k'+1) ⟨j3,j2⟩ (Nat.lt_succ_self _))
    ·(simp only [go_sem,hF,hP,gA,gB,aJ qD];try exact bH)
    ·(simp only [go_sem,hF,hP,gA,gB,aJ qD];try exact bH)
def Pg.wB (p:Pg) (id:Int):Sm:=match ov id p.procs with | some (i,_)=>i.s | none=>Gp
theorem adz {p:Pg} (hs:Pc.aR p.procs<4611686018427387000) (hp:p.procs.length<1000000) (id:Int) (s:St):aB Tryz.prog wV [.agg (bA p), .int .i64 id] s (.agg (aU (p.wB id))) s:=by
 refine aB.pure ?_ (by simp [D.bp,D.ok,gv]) (by simp [D.ok,km]) s
 have hf:=fun s=>ady hs hp id s
 unfold Pg.wB
 generalize ov id p.procs=r at hf ⊢
 unfold S0
 cases r with
 | none=>
  simp only [nK]at hf
  refine aB.go zQ rfl fun B Q hB hQ=> ?_
  have⟨hF,hP,gA,gB⟩:=bF
  repeat' (first
 | simp only [go_sem,hF,hP,gA,gB,JI,it0]
 | (with_reducible refine CU (hf _) ?_)
 | (with_reducible refine aC hQ ?_;simp only [ay,az,Option.some.injEq,exists_eq_left',go_sem,hF,hP,gA,gB];repeat' (first | exact Ok.out | with_reducible refine aH ?_ ?_ | (simp;done))))
 | some x=>
  obtain⟨i,nm⟩:=x
  simp only [nK]at hf
  refine aB.go zQ rfl fun B Q hB hQ=> ?_
  have⟨hF,hP,gA,gB⟩:=bF
  repeat' (first
 | simp only [go_sem,hF,hP,gA,gB,JI]
 | (with_reducible refine CU (hf _) ?_)
 | (with_reducible refine aC hQ ?_;simp only [ay,az,Option.some.injEq,exists_eq_left',go_sem,hF,hP,gA,gB];repeat' (first | exact Ok.out | with_reducible refine aH ?_ ?_ | (simp;done))))
end Go.Abs

/-! Full1 -/

namespace Go.Abs
set_option maxRecDepth 8000
open Go.Proofs
def cZ (t:aD) (n:Int):Int:=if n > 20000 then 20001 else if(t.length:Int)≥20000 - n then 20001 else n+1+t.length
mutual
def fa:Ex→Int→Int
 | ⟨_,_,name,kids⟩,n=>ng kids (cZ name n)
def ng:List Ex→Int→Int
 | [],n=>n
 | x::l,n=>if n≤20000 then ng l (fa x n)else n
end
theorem lU {t:aD} {n:Int} (h0:0≤n):cZ t n≤20001∧(n≤20000→n+1≤cZ t n)∧0≤cZ t n∧(cZ t n≤20000→n+1+t.length=cZ t n):=by
 unfold cZ;split
 ·omega
 ·split <;> omega
theorem vz : ∀ (m:Nat) (x:Ex),x.size≤m→∀ n:Int,0≤n→fa x n≤20001∧(n≤20000→n+1≤fa x n)∧0≤fa x n∧(fa x n≤20000→(x.size:Int)+1≤2*(fa x n - n)∧x.texts):=by
 intro m
 induction m with
 | zero=>rintro⟨op,v,name,kids⟩ h;simp only [Ex.size]at h;omega
 | succ m ih=>
  rintro⟨op,v,name,kids⟩ h n h0
  simp only [Ex.size]at h
  obtain⟨t1,t2,t3,t4⟩:=lU (t:=name) h0
  have go : ∀ (l:List Ex),Ex.aR l≤m→∀ c:Int,0≤c→c≤20001→ng l c≤20001∧c≤ng l c∧(ng l c≤20000→(Ex.aR l:Int)≤2*(ng l c - c)∧Ex.uZ l):=by
   intro l
   induction l with
   | nil=>intro _ c h0 h1;simp only [ng,Ex.aR];exact⟨h1,Int.le_refl _,fun _=>⟨by omega,trivial⟩⟩
   | cons y l Q6=>
    intro hs c h0 h1
    simp only [Ex.aR]at hs ⊢
    simp only [ng]
    split
    ·rename_i hc
     obtain⟨a1,a2,a3,a4⟩:=ih y (by omega) c h0
     obtain⟨b1,b2,b3⟩:=Q6 (by omega) (fa y c) a3 a1
     have:=a2 hc
     refine⟨b1,by omega,fun hw=> ?_⟩
     obtain⟨c1,c2⟩:=b3 hw
     obtain⟨d1,d2⟩:=a4 (by omega)
     exact⟨by omega,d2,c2⟩
    ·exact⟨h1,Int.le_refl _,fun hw=>by omega⟩
  obtain⟨g1,g2,g3⟩:=go kids (by omega) (cZ name n) t3 t1
  simp only [fa,Ex.size]
  refine⟨g1,fun hn=>by have:=t2 hn;omega,by omega,fun hw=> ?_⟩
  obtain⟨k1,k2⟩:=g3 hw
  have:=t4 (by omega)
  exact⟨by omega,by omega,k2⟩
theorem qu (t:aD) {n:Int} (h0:0≤n) (h1:n≤20001) (s:St):aB Tryz.prog gx [.str t, .int .i64 n] s (.int .i64 (cZ t n)) s:=by
 refine aB.pure ?_ rfl rfl s
 unfold S0
 have w1:IntKind.wrap .i64 (20000 - n)=20000 - n:=cV (by omega) (by omega)
 have w2:IntKind.wrap .i64 (n+1)=n+1:=cV (by omega) (by omega)
 by_cases c:n > 20000
 ·have c1:decide (n > 20000)=true:=by simp;omega
  have e:cZ t n=20001:=by simp [cZ,c]
  rw [e]
  refine aB.go oS rfl fun B Q hB hQ=> ?_
  have⟨hF,hP,gA,gB⟩:=bF
  repeat' (first
 | simp only [go_sem,hF,hP,gA,gB,c1,w1,w2]
 | (with_reducible refine aC hQ ?_;simp only [ay,az,Option.some.injEq,exists_eq_left',go_sem,hF,hP,gA,gB];repeat' (first | exact Ok.out | with_reducible refine aH ?_ ?_ | (simp;done))))
 ·have c1:decide (n > 20000)=false:=by simp;omega
  by_cases d:(t.length:Int)≥20000 - n
  ·have d1:decide ((t.length:Int)≥20000 - n)=true:=by simp;omega
   have e:cZ t n=20001:=by unfold cZ;rw [if_neg c,if_pos d]
   rw [e]
   refine aB.go oS rfl fun B Q hB hQ=> ?_
   have⟨hF,hP,gA,gB⟩:=bF
   repeat' (first
 | simp only [go_sem,hF,hP,gA,gB,c1,d1,w1,w2]
 | (with_reducible refine aC hQ ?_;simp only [ay,az,Option.some.injEq,exists_eq_left',go_sem,hF,hP,gA,gB];repeat' (first | exact Ok.out | with_reducible refine aH ?_ ?_ | (simp;done))))
  ·have d1:decide ((t.length:Int)≥20000 - n)=false:=by simp;omega
   have e:cZ t n=n+1+t.length:=by unfold cZ;rw [if_neg c,if_neg d]
   have w3:IntKind.wrap .i64 (n+1+t.length)=n+1+t.length:=cV (by omega) (by omega)
   rw [e]
   refine aB.go oS rfl fun B Q hB hQ=> ?_
   have⟨hF,hP,gA,gB⟩:=bF
   repeat' (first
 | simp only [go_sem,hF,hP,gA,gB,c1,d1,w1,w2,w3]
 | (with_reducible refine aC hQ ?_;simp only [ay,az,Option.some.injEq,exists_eq_left',go_sem,hF,hP,gA,gB];repeat' (first | exact Ok.out | with_reducible refine aH ?_ ?_ | (simp;done))))
theorem Ki : ∀ (m:Nat) (x:Ex),x.size≤m→∀ {n:Int},0≤n→n≤20000→∀ s:St,aB Tryz.prog jE [.agg (bx x), .int .i64 n] s (.int .i64 (fa x n)) s:=by
 intro m
 induction m with
 | zero=>rintro⟨op,v,name,kids⟩ h;simp only [Ex.size]at h;omega
 | succ m ih=>
  rintro⟨op,v,name,kids⟩ dN n h0 h1 s
  refine aB.pure ?_ (by simp [D.bp,D.ok,gL]) rfl s
  simp only [Ex.size]at dN
  have hk : ∀ y∈kids,∀ {n:Int},0≤n→n≤20000→∀ s:St,aB Tryz.prog jE [.agg (bx y), .int .i64 n] s (.int .i64 (fa y n)) s:=fun y hy=>ih y (by have:=Ex.bT hy;omega)
  have ht:=fun s=>qu name h0 (by omega) s
  obtain⟨t1,t2,t3,t4⟩:=lU (t:=name) h0
  unfold S0
  generalize h:fa ⟨op,v,name,kids⟩ n=p
  simp only [fa]at h
  refine aB.go A5 rfl fun B Q hB hQ=> ?_
  have⟨hF,hP,gA,gB⟩:=bF
  repeat' (first
 | simp only [go_sem,hF,hP,gA,gB]
 | (with_reducible refine CU (ht _) ?_)
 | (with_reducible first | refine bq fun hc=> ?_ | refine br fun hc=> ?_ | refine bt (fun hc=> ?_) fun hc=> ?_) <;> (try simp only [hc,bs, ↓reduceIte]at h) <;> try simp only [hc]
 | (with_reducible refine aC hQ ?_;(try cases h);simp only [ay,az,bu,bw,go_sem,hF,hP,gA,gB];repeat' (first | exact Ok.out | with_reducible refine aH ?_ ?_ | (simp;done))))
  refine cO 1 0 (bh.ind (ι:=List Ex×Nat×Int) (fun i=>kids.drop i.2.1=i.1∧ng i.1 i.2.2=p∧(i.2.1:Int)≤i.2.2∧i.2.2≤20001) (fun i=>i.1.length)
   (fun i=> [(1, .int .i64 i.2.2),(2, .ptr 0 0),(5, .int .i64 (i.2.1:Int))]) (fun i=>⟨[bx ⟨op,v,name,kids⟩],[]⟩) ?_ (kids,0,cZ name n) ⟨rfl,h,t3,t1⟩)
  rintro⟨rest,k,c⟩ ⟨g1,h,g3,g4⟩ IH
  dsimp only at g1 h g3 g4
  cases rest with
  | nil=>
   have hF:=drop_nil g1
   simp only [ng]at h
   repeat' (first
 | simp only [go_sem,hF,hP,gA,gB]
 | (with_reducible first | refine bq fun hc=> ?_ | refine br fun hc=> ?_ | refine bt (fun hc=> ?_) fun hc=> ?_) <;> (try simp only [hc,bs, ↓reduceIte]at h) <;> try simp only [hc]
 | (with_reducible refine aC hQ ?_;(try cases h);simp only [ay,az,bu,bw,go_sem,hF,hP,gA,gB];repeat' (first | exact Ok.out | with_reducible refine aH ?_ ?_ | (simp;done))))
  | cons y rest=>
   obtain⟨hP,g2,hF,g5⟩:=drop_cons g1
   simp only [ng]at h
   by_cases hc:c≤20000
   ·have c1:decide (c≤20000)=true:=by simp;omega
    have hy:=fun s=>hk y (List.mem_of_getElem? hP) (n:=c) (by omega) hc s
    obtain⟨a1,a2,a3,a4⟩:=vz _ y (Nat.le_refl _) c (by omega)
    have:=a2 hc
    have w3:IntKind.wrap .i64 ((k:Int)+1)=((k+1:Nat):Int):=by rw [cV] <;> omega
    rw [if_pos hc]at h
    repeat' (first
 | simp only [go_sem,hF,hP,gA,gB,c1,w3]
 | (with_reducible refine CU (hy _) ?_)
 | (with_reducible first | refine bq fun hc=> ?_ | refine br fun hc=> ?_ | refine bt (fun hc=> ?_) fun hc=> ?_) <;> (try simp only [hc,bs, ↓reduceIte]at h) <;> try simp only [hc]
 | (with_reducible refine aC hQ ?_;(try cases h);simp only [ay,az,bu,bw,go_sem,hF,hP,gA,gB,c1,w3];repeat' (first | exact Ok.out | with_reducible refine aH ?_ ?_ | (simp;done))))
    refine cO 1 0 (IH (rest,k+1,fa y c) ⟨g2,h,by dsimp only;omega,a1⟩ (Nat.lt_succ_self _))
   ·have c1:decide (c≤20000)=false:=by simp;omega
    rw [if_neg hc]at h
    repeat' (first
 | simp only [go_sem,hF,hP,gA,gB,c1]
 | (with_reducible first | refine bq fun hc=> ?_ | refine br fun hc=> ?_ | refine bt (fun hc=> ?_) fun hc=> ?_) <;> (try simp only [hc,bs, ↓reduceIte]at h) <;> try simp only [hc]
 | (with_reducible refine aC hQ ?_;(try cases h);simp only [ay,az,bu,bw,go_sem,hF,hP,gA,gB,c1];repeat' (first | exact Ok.out | with_reducible refine aH ?_ ?_ | (simp;done))))
end Go.Abs

/-! Fits1 -/

namespace Go.Abs
set_option maxRecDepth 8000
open Go.Proofs
def dO:List aD→Int→Int
 | [],n=>n
 | t::l,n=>if n≤20000 then dO l (cZ t n)else n
def iD:List Ar→Int→Int
 | [],n=>n
 | a::l,n=>if n≤20000 then iD l (cZ a.name (fa a.x n))else n
def ke:List Pm→Int→Int
 | [],n=>n
 | a::l,n=>if n≤20000 then ke l (cZ a.name n)else n
mutual
def rz:Sm→Int→Int
 | ⟨_,_,labels,name,proc,x,_,args,aQ,aM⟩,n=>fI aM (fI aQ (iD args (cZ proc (cZ name (dO labels (fa x n))))))
def fI:List Sm→Int→Int
 | [],n=>n
 | s::l,n=>if n≤20000 then fI l (rz s n)else n
end
theorem Sd (s:Sm) (n:Int):rz s n=fI s.aM (fI s.aQ (iD s.args (cZ s.proc (cZ s.name (dO s.labels (fa s.x n)))))):=by cases s;simp only [rz]
def tf (f:Pc) (n:Int):Int:=fI f.body (ke f.params (dO f.fin (dO f.vars (cZ f.name n))))
def nh:List Pc→Int→Int
 | [],n=>n
 | f::l,n=>if n≤20000 then nh l (tf f n)else n
def Pg.BS (p:Pg):Int:=nh p.procs (dO p.globals 0)
theorem kL : ∀ (l:List aD) {n:Int},0≤n→n≤20001→dO l n≤20001∧n≤dO l n∧(dO l n≤20000→n+l.length≤dO l n∧∀ t∈l,t.length<4611686018427387904)
 | [],n,h0,h1=>by simp only [dO];exact⟨h1,Int.le_refl _,fun _=>⟨by simp,by simp⟩⟩
 | t::l,n,h0,h1=>by
  simp only [dO]
  split
  ·rename_i hc
   obtain⟨a1,a2,a3,a4⟩:=lU (t:=t) h0
   obtain⟨b1,b2,b3⟩:=kL l (n:=cZ t n) a3 a1
   have:=a2 hc
   refine⟨b1,by omega,fun hw=> ?_⟩
   obtain⟨c1,c2⟩:=b3 hw
   have:=a4 (by omega)
   refine⟨by simp only [List.length_cons];omega,fun s m=> ?_⟩
   rcases List.mem_cons.1 m with rfl | m
   ·omega
   ·exact c2 s m
  ·exact⟨h1,Int.le_refl _,fun hw=>by omega⟩
theorem zt : ∀ (l:List Pm) {n:Int},0≤n→n≤20001→ke l n≤20001∧n≤ke l n∧(ke l n≤20000→n+l.length≤ke l n∧∀ t∈l,t.name.length<4611686018427387904)
 | [],n,h0,h1=>by simp only [ke];exact⟨h1,Int.le_refl _,fun _=>⟨by simp,by simp⟩⟩
 | t::l,n,h0,h1=>by
  simp only [ke]
  split
  ·rename_i hc
   obtain⟨a1,a2,a3,a4⟩:=lU (t:=t.name) h0
   obtain⟨b1,b2,b3⟩:=zt l (n:=cZ t.name n) a3 a1
   have:=a2 hc
   refine⟨b1,by omega,fun hw=> ?_⟩
   obtain⟨c1,c2⟩:=b3 hw
   have:=a4 (by omega)
   refine⟨by simp only [List.length_cons];omega,fun s m=> ?_⟩
   rcases List.mem_cons.1 m with rfl | m
   ·omega
   ·exact c2 s m
  ·exact⟨h1,Int.le_refl _,fun hw=>by omega⟩
theorem zu : ∀ (l:List Ar) {n:Int},0≤n→n≤20001→iD l n≤20001∧n≤iD l n∧
 (iD l n≤20000→(Ar.aR l:Int)≤2*(iD l n - n)∧∀ a∈l,a.x.size<4611686018427387904∧a.x.texts∧a.name.length<4611686018427387904)
 | [],n,h0,h1=>by simp only [iD];exact⟨h1,Int.le_refl _,fun _=>⟨by simp [Ar.aR],by simp⟩⟩
 | a::l,n,h0,h1=>by
  simp only [iD]
  split
  ·rename_i hc
   obtain⟨a1,a2,a3,a4⟩:=vz _ a.x (Nat.le_refl _) n h0
   obtain⟨e1,e2,e3,e4⟩:=lU (t:=a.name) a3
   obtain⟨b1,b2,b3⟩:=zu l (n:=cZ a.name (fa a.x n)) e3 e1
   have:=a2 hc
   have:fa a.x n≤cZ a.name (fa a.x n):=by
    by_cases h:fa a.x n≤20000
    ·have:=e2 h;omega
    ·have:cZ a.name (fa a.x n)=20001:=by unfold cZ;rw [if_pos (by omega)]
     omega
   refine⟨b1,by omega,fun hw=> ?_⟩
   obtain⟨c1,c2⟩:=b3 hw
   have:=e4 (by omega)
   obtain⟨d1,d2⟩:=a4 (by omega)
   refine⟨by simp only [Ar.aR];omega,fun s m=> ?_⟩
   rcases List.mem_cons.1 m with rfl | m
   ·exact⟨by omega,d2,by omega⟩
   ·exact c2 s m
  ·exact⟨h1,Int.le_refl _,fun hw=>by omega⟩
theorem kU {t:aD} {n:Int} (h0:0≤n) (h1:n≤20001):n≤cZ t n∧cZ t n≤20001∧(cZ t n≤20000→n+1≤cZ t n∧t.length<4611686018427387904):=by
 obtain⟨e1,e2,e3,e4⟩:=lU (t:=t) h0
 by_cases h:n≤20000
 ·have:=e2 h
  exact⟨by omega,e1,fun hw=>⟨by omega,by have:=e4 hw;omega⟩⟩
 ·have:cZ t n=20001:=by unfold cZ;rw [if_pos (by omega)]
  exact⟨by omega,e1,fun hw=>by omega⟩
mutual
theorem G8 : ∀ (s:Sm) {n:Int},0≤n→n≤20000→rz s n≤20001∧n+1≤rz s n∧(rz s n≤20000→(s.size:Int)+1≤2*(rz s n - n)∧s.we)
 | ⟨id,kind,labels,name,proc,x,has,args,aQ,aM⟩,n,h0,h1=>by
  obtain⟨a1,a2,a3,a4⟩:=vz _ x (Nat.le_refl _) n h0
  have a2:=a2 h1
  obtain⟨b1,b2,b3⟩:=kL labels a3 a1
  obtain⟨c1,c2,c3⟩:=kU (t:=name) (n:=dO labels (fa x n)) (by omega) b1
  obtain⟨d1,d2,d3⟩:=kU (t:=proc) (n:=cZ name (dO labels (fa x n))) (by omega) c2
  obtain⟨e1,e2,e3⟩:=zu args (n:=cZ proc (cZ name (dO labels (fa x n)))) (by omega) d2
  obtain⟨f1,f2,f3⟩:=rA aQ (n:=iD args (cZ proc (cZ name (dO labels (fa x n))))) (by omega) e1
  obtain⟨g1,g2,g3⟩:=rA aM (n:=fI aQ (iD args (cZ proc (cZ name (dO labels (fa x n)))))) (by omega) f1
  simp only [rz,Sm.size]
  refine⟨g1,by omega,fun hw=> ?_⟩
  obtain⟨g4,g5⟩:=g3 hw
  obtain⟨f4,f5⟩:=f3 (by omega)
  obtain⟨e4,e5⟩:=e3 (by omega)
  obtain⟨d4,d5⟩:=d3 (by omega)
  obtain⟨c4,c5⟩:=c3 (by omega)
  obtain⟨b4,b5⟩:=b3 (by omega)
  obtain⟨a5,a6⟩:=a4 (by omega)
  have:=Ar.cM args
  refine⟨by omega, ?_⟩
  rw [C5]
  exact⟨⟨b5,by dsimp only;omega,c5,d5,by dsimp only;omega,a6,by dsimp only;omega,e5⟩,f5,g5⟩
theorem rA : ∀ (l:List Sm) {n:Int},0≤n→n≤20001→fI l n≤20001∧n≤fI l n∧(fI l n≤20000→(Sm.aR l:Int)≤2*(fI l n - n)∧Sm.jY l)
 | [],n,h0,h1=>by simp only [fI];exact⟨h1,Int.le_refl _,fun _=>⟨by simp [Sm.aR],by simp only [Sm.jY]⟩⟩
 | s::l,n,h0,h1=>by
  simp only [fI]
  split
  ·rename_i hc
   obtain⟨a1,a2,a3⟩:=G8 s h0 hc
   obtain⟨b1,b2,b3⟩:=rA l (n:=rz s n) (by omega) a1
   refine⟨b1,by omega,fun hw=> ?_⟩
   obtain⟨c1,c2⟩:=b3 hw
   obtain⟨d1,d2⟩:=a3 (by omega)
   exact⟨by simp only [Sm.aR];omega,d2,c2⟩
  ·exact⟨h1,Int.le_refl _,fun hw=>by omega⟩
end
theorem G9 (f:Pc) {n:Int} (h0:0≤n) (h1:n≤20000):tf f n≤20001∧n+1≤tf f n∧(tf f n≤20000→(f.size:Int)+1≤2*(tf f n - n)∧
 (f.name.length<4611686018427387904∧(∀ t∈f.vars,t.length<4611686018427387904)∧(∀ t∈f.fin,t.length<4611686018427387904)∧∀ a∈f.params,a.name.length<4611686018427387904)∧Sm.jY f.body):=by
 obtain⟨c1,c2,c3⟩:=kU (t:=f.name) h0 (by omega:n≤20001)
 have c4:=(lU (t:=f.name) h0).2.1 h1
 obtain⟨d1,d2,d3⟩:=kL f.vars (n:=cZ f.name n) (by omega) c2
 obtain⟨e1,e2,e3⟩:=kL f.fin (n:=dO f.vars (cZ f.name n)) (by omega) d1
 obtain⟨g1,g2,g3⟩:=zt f.params (n:=dO f.fin (dO f.vars (cZ f.name n))) (by omega) e1
 obtain⟨k1,k2,k3⟩:=rA f.body (n:=ke f.params (dO f.fin (dO f.vars (cZ f.name n)))) (by omega) g1
 unfold tf Pc.size
 refine⟨k1,by omega,fun hw=> ?_⟩
 obtain⟨k4,k5⟩:=k3 hw
 obtain⟨g4,g5⟩:=g3 (by omega)
 obtain⟨e4,e5⟩:=e3 (by omega)
 obtain⟨d4,d5⟩:=d3 (by omega)
 obtain⟨_,c5⟩:=c3 (by omega)
 exact⟨by omega,⟨c5,d5,e5,g5⟩,k5⟩
theorem EG : ∀ (l:List Pc) {n:Int},0≤n→n≤20001→nh l n≤20001∧n≤nh l n∧(nh l n≤20000→(Pc.aR l:Int)≤2*(nh l n - n)∧∀ f∈l,
 (f.name.length<4611686018427387904∧(∀ t∈f.vars,t.length<4611686018427387904)∧(∀ t∈f.fin,t.length<4611686018427387904)∧∀ a∈f.params,a.name.length<4611686018427387904)∧Sm.jY f.body)
 | [],n,h0,h1=>by simp only [nh];exact⟨h1,Int.le_refl _,fun _=>⟨by simp [Pc.aR],by simp⟩⟩
 | f::l,n,h0,h1=>by
  simp only [nh]
  split
  ·rename_i hc
   obtain⟨a1,a2,a3⟩:=G9 f h0 hc
   obtain⟨b1,b2,b3⟩:=EG l (n:=tf f n) (by omega) a1
   refine⟨b1,by omega,fun hw=> ?_⟩
   obtain⟨c1,c2⟩:=b3 hw
   obtain⟨d1,d2⟩:=a3 (by omega)
   refine⟨by simp only [Pc.aR];omega,fun s m=> ?_⟩
   rcases List.mem_cons.1 m with rfl | m
   ·exact d2
   ·exact c2 s m
  ·exact⟨h1,Int.le_refl _,fun hw=>by omega⟩
theorem Pk {p:Pg} (h:p.BS≤20000):p.size≤40001∧p.H9:=by
 unfold Pg.BS at h
 obtain⟨a1,a2,a3⟩:=kL p.globals (n:=0) (by omega) (by omega)
 obtain⟨b1,b2,b3⟩:=EG p.procs (n:=dO p.globals 0) (by omega) a1
 obtain⟨c1,c2⟩:=b3 h
 obtain⟨d1,d2⟩:=a3 (by omega)
 have:p.size≤40001:=by unfold Pg.size;omega
 exact⟨this,by omega,d2,fun f m=>(c2 f m).1,fun f m=>(c2 f m).2⟩
theorem wC {l:List aD} {n:Int} (h0:0≤n) (h1:n≤20001) (s:St):aB Tryz.prog jo [.slice .shared 1 (l.map encStr), .int .i64 n] s (.int .i64 (dO l n)) s:=by
 refine aB.pure ?_ (by simp [D.bp,D.ok,eD,Tag.ok]) rfl s
 unfold S0
 generalize h:dO l n=p
 refine aB.go Ab rfl fun B Q hB hQ=> ?_
 have⟨hF,hP,gA,gB⟩:=bF
 repeat' (first
 | simp only [go_sem,hF,hP,gA,gB]
 | (with_reducible refine aC hQ ?_;simp only [ay,az,Option.some.injEq,exists_eq_left',go_sem,hF,hP,gA,gB];repeat' (first | exact Ok.out | with_reducible refine aH ?_ ?_ | (simp;done))))
 refine cO 0 0 (bh.ind (ι:=List aD×Nat×Int) (fun i=>l.drop i.2.1=i.1∧dO i.1 i.2.2=p∧(i.2.1:Int)≤i.2.2∧i.2.2≤20001) (fun i=>i.1.length)
  (fun i=> [(0, .slice .shared 1 (l.map encStr)),(1, .int .i64 i.2.2),(5, .int .i64 (i.2.1:Int))]) (fun i=>⟨[],[]⟩) ?_ (l,0,n) ⟨rfl,h,h0,h1⟩)
 rintro⟨rest,k,c⟩ ⟨g1,h,g3,g4⟩ IH
 dsimp only at g1 h g3 g4
 cases rest with
 | nil=>
  have hF:=drop_nil g1
  simp only [dO]at h
  subst h
  repeat' (first
 | simp only [go_sem,hF,hP,gA,gB]
 | (with_reducible refine aC hQ ?_;simp only [ay,az,Option.some.injEq,exists_eq_left',go_sem,hF,hP,gA,gB];repeat' (first | exact Ok.out | with_reducible refine aH ?_ ?_ | (simp;done))))
 | cons y rest=>
  obtain⟨hP,g2,hF,g5⟩:=drop_cons g1
  simp only [dO]at h
  by_cases hc:c≤20000
  ·have c1:decide (c≤20000)=true:=by simp;omega
   have hy:=fun s=>qu y (n:=c) (by omega) g4 s
   obtain⟨a1,a2,a3,a4⟩:=lU (t:=y) (n:=c) (by omega)
   have:=a2 hc
   have w3:IntKind.wrap .i64 ((k:Int)+1)=((k+1:Nat):Int):=by rw [cV] <;> omega
   rw [if_pos hc]at h
   repeat' (first
 | simp only [go_sem,hF,hP,gA,gB,c1,w3]
 | (with_reducible refine CU (hy _) ?_)
 | (with_reducible refine aC hQ ?_;simp only [ay,az,Option.some.injEq,exists_eq_left',go_sem,hF,hP,gA,gB];repeat' (first | exact Ok.out | with_reducible refine aH ?_ ?_ | (simp;done))))
   refine cO 0 0 (IH (rest,k+1,cZ y c) ⟨g2,h,by dsimp only;omega,a1⟩ (Nat.lt_succ_self _))
  ·have c1:decide (c≤20000)=false:=by simp;omega
   rw [if_neg hc]at h
   subst h
   repeat' (first
 | simp only [go_sem,hF,hP,gA,gB,c1]
 | (with_reducible refine aC hQ ?_;simp only [ay,az,Option.some.injEq,exists_eq_left',go_sem,hF,hP,gA,gB];repeat' (first | exact Ok.out | with_reducible refine aH ?_ ?_ | (simp;done))))
theorem Se : ∀ (m:Nat) (l:List Sm),Sm.aR l≤m→∀ {n:Int},0≤n→n≤20001→∀ s:St,aB Tryz.prog ky [.slice .shared 13 (l.map aU), .int .i64 n] s (.int .i64 (fI l n)) s:=by
 intro m
 induction m with
 | zero=>
  intro l h n h0 h1 s
  cases l with
  | nil=>
   have z:decide ((0:Int)<0)=false:=rfl
   refine aB.pure ?_ (by simp [D.bp,D.ok,D.gZ,Tag.ok]) rfl s
   unfold S0
   simp only [fI]
   refine aB.go rM rfl fun B Q hB hQ=> ?_
   have⟨hF,hP,gA,gB⟩:=bF
   repeat' (first
 | simp only [go_sem,hF,hP,gA,gB,z]
 | (with_reducible refine bh.o7 ?_)
 | (with_reducible refine aC hQ ?_;simp only [ay,az,Option.some.injEq,exists_eq_left',go_sem,hF,hP,gA,gB];repeat' (first | exact Ok.out | with_reducible refine aH ?_ ?_ | (simp;done))))
  | cons s l=>simp only [Sm.aR]at h;omega
 | succ m ih=>
  intro l h n h0 h1 s
  refine aB.pure ?_ (by simp [D.bp,D.ok,iH,Tag.ok]) rfl s
  unfold S0
  generalize hp:fI l n=p
  refine aB.go rM rfl fun B Q hB hQ=> ?_
  have⟨hF,hP,gA,gB⟩:=bF
  repeat' (first
 | simp only [go_sem,hF,hP,gA,gB]
 | (with_reducible refine aC hQ ?_;simp only [ay,az,Option.some.injEq,exists_eq_left',go_sem,hF,hP,gA,gB];repeat' (first | exact Ok.out | with_reducible refine aH ?_ ?_ | (simp;done))))
  refine cO 0 0 (bh.ind (ι:=List Sm×Nat×Int) (fun i=>l.drop i.2.1=i.1∧fI i.1 i.2.2=p∧(i.2.1:Int)≤i.2.2∧i.2.2≤20001) (fun i=>i.1.length)
   (fun i=> [(0, .slice .shared 13 (l.map aU)),(1, .int .i64 i.2.2),(5, .int .i64 (i.2.1:Int))]) (fun i=>⟨[],[]⟩) ?_ (l,0,n) ⟨rfl,hp,h0,h1⟩)
  rintro⟨rest,k,c⟩ ⟨g1,hp,g3,g4⟩ IH
  dsimp only at g1 hp g3 g4
  cases rest with
  | nil=>
   have hF:=drop_nil g1
   simp only [fI]at hp
   subst hp
   repeat' (first
 | simp only [go_sem,hF,hP,gA,gB]
 | (with_reducible refine aC hQ ?_;simp only [ay,az,Option.some.injEq,exists_eq_left',go_sem,hF,hP,gA,gB];repeat' (first | exact Ok.out | with_reducible refine aH ?_ ?_ | (simp;done))))
  | cons y rest=>
   obtain⟨hP,g2,hF,g5⟩:=drop_cons g1
   simp only [fI]at hp
   by_cases hc:c≤20000
   ·have c1:decide (c≤20000)=true:=by simp;omega
    have n8:=List.mem_of_getElem? hP
    have dN:=Sm.bT n8
    have Ti:s.aw.length≤s.aw.length∧Sm.aR y.aQ<y.size∧Sm.aR y.aM<y.size:=by cases y;simp only [Sm.size];omega
    have w3:IntKind.wrap .i64 ((k:Int)+1)=((k+1:Nat):Int):=by rw [cV] <;> omega
    rw [if_pos hc]at hp
    obtain⟨a1,a2,a3,a4⟩:=vz _ y.x (Nat.le_refl _) c (by omega)
    have a2:=a2 hc
    obtain⟨b1,b2,b3⟩:=kL y.labels a3 a1
    obtain⟨c1',c2,c3⟩:=kU (t:=y.name) (n:=dO y.labels (fa y.x c)) (by omega) b1
    obtain⟨d1,d2,d3⟩:=kU (t:=y.proc) (n:=cZ y.name (dO y.labels (fa y.x c))) (by omega) c2
    have eE:=fun s=>Ki _ y.x (Nat.le_refl _) (n:=c) (by omega) hc s
    have eL:=fun s=>wC (l:=y.labels) (n:=fa y.x c) (by omega) a1 s
    have eN:=fun s=>qu y.name (n:=dO y.labels (fa y.x c)) (by omega) b1 s
    have eP:=fun s=>qu y.proc (n:=cZ y.name (dO y.labels (fa y.x c))) (by omega) c2 s
    obtain⟨r1,r2,r3⟩:=G8 y (n:=c) (by omega) hc
    rw [Sd]at hp r1 r2
    generalize hC:cZ y.proc (cZ y.name (dO y.labels (fa y.x c)))=C at *
    obtain⟨s1,s2,s3⟩:=zu y.args (n:=C) (by omega) d2
    obtain⟨t1,t2,t3⟩:=rA y.aQ (n:=iD y.args C) (by omega) s1
    have eT:=fun s=>ih y.aQ (by omega) (n:=iD y.args C) (by omega) s1 s
    have eS:=fun s=>ih y.aM (by omega) (n:=fI y.aQ (iD y.args C)) (by omega) t1 s
    generalize hW:iD y.args C=W at *
    repeat' (first
 | simp only [go_sem,hF,hP,gA,gB,c1,w3]
 | (with_reducible refine CU (eE _) ?_)
 | (with_reducible refine CU (eL _) ?_)
 | (with_reducible refine CU (eN _) ?_)
 | (with_reducible refine CU (eP _) ?_)
 | (with_reducible refine aC hQ ?_;simp only [ay,az,Option.some.injEq,exists_eq_left',go_sem,hF,hP,gA,gB];repeat' (first | exact Ok.out | with_reducible refine aH ?_ ?_ | (simp;done))))
    refine cO 1 0 (bh.ind (ι:=List Ar×Nat×Int) (fun i=>y.args.drop i.2.1=i.1∧iD i.1 i.2.2=W∧(i.2.1:Int)≤i.2.2∧i.2.2≤20001) (fun i=>i.1.length)
     (fun i=> [(0, .slice .shared 13 (l.map aU)),(1, .int .i64 i.2.2),(5, .int .i64 (k:Int)),(6, .ptr 0 0),(7, .int .i64 (i.2.1:Int))]) (fun i=>⟨[aU y],[]⟩) ?_ (y.args,0,C) ⟨rfl,hW,by dsimp only;omega,d2⟩)
    rintro⟨ars,j,e⟩ ⟨k1,hw,k3,k4⟩ Bb
    dsimp only at k1 hw k3 k4
    cases ars with
    | nil=>
     have hF:=drop_nil k1
     simp only [iD]at hw
     subst hw
     repeat' (first
 | simp only [go_sem,hF,hP,gA,gB,w3]
 | (with_reducible refine CU (eT _) ?_)
 | (with_reducible refine CU (eS _) ?_)
 | (with_reducible refine aC hQ ?_;simp only [ay,az,Option.some.injEq,exists_eq_left',go_sem,hF,hP,gA,gB];repeat' (first | exact Ok.out | with_reducible refine aH ?_ ?_ | (simp;done))))
     refine cO 0 0 (IH (rest,k+1,fI y.aM (fI y.aQ e)) ⟨g2,hp,by dsimp only;omega,r1⟩ (Nat.lt_succ_self _))
    | cons a ars=>
     obtain⟨hP,k2,hF,k5⟩:=drop_cons k1
     simp only [iD]at hw
     by_cases he:e≤20000
     ·have e1:decide (e≤20000)=true:=by simp;omega
      have w4:IntKind.wrap .i64 ((j:Int)+1)=((j+1:Nat):Int):=by rw [cV] <;> omega
      rw [if_pos he]at hw
      obtain⟨u1,u2,u3,u4⟩:=vz _ a.x (Nat.le_refl _) e (by omega)
      have u2:=u2 he
      obtain⟨v1,v2,v3⟩:=kU (t:=a.name) (n:=fa a.x e) u3 u1
      have eX:=fun s=>Ki _ a.x (Nat.le_refl _) (n:=e) (by omega) he s
      have eM:=fun s=>qu a.name (n:=fa a.x e) u3 u1 s
      repeat' (first
 | simp only [go_sem,hF,hP,gA,gB,e1,w4]
 | (with_reducible refine CU (eX _) ?_)
 | (with_reducible refine CU (eM _) ?_)
 | (with_reducible refine aC hQ ?_;simp only [ay,az,Option.some.injEq,exists_eq_left',go_sem,hF,hP,gA,gB];repeat' (first | exact Ok.out | with_reducible refine aH ?_ ?_ | (simp;done))))
      refine cO 1 0 (Bb (ars,j+1,cZ a.name (fa a.x e)) ⟨k2,hw,by dsimp only;omega,v2⟩ (Nat.lt_succ_self _))
     ·have e1:decide (e≤20000)=false:=by simp;omega
      rw [if_neg he]at hw
      subst hw
      repeat' (first
 | simp only [go_sem,hF,hP,gA,gB,e1,w3]
 | (with_reducible refine CU (eT _) ?_)
 | (with_reducible refine CU (eS _) ?_)
 | (with_reducible refine aC hQ ?_;simp only [ay,az,Option.some.injEq,exists_eq_left',go_sem,hF,hP,gA,gB];repeat' (first | exact Ok.out | with_reducible refine aH ?_ ?_ | (simp;done))))
      refine cO 0 0 (IH (rest,k+1,fI y.aM (fI y.aQ e)) ⟨g2,hp,by dsimp only;omega,r1⟩ (Nat.lt_succ_self _))
   ·have c1:decide (c≤20000)=false:=by simp;omega
    rw [if_neg hc]at hp
    subst hp
    repeat' (first
 | simp only [go_sem,hF,hP,gA,gB,c1]
 | (with_reducible refine aC hQ ?_;simp only [ay,az,Option.some.injEq,exists_eq_left',go_sem,hF,hP,gA,gB];repeat' (first | exact Ok.out | with_reducible refine aH ?_ ?_ | (simp;done))))
end Go.Abs

/-! Fits2 -/

namespace Go.Abs
set_option maxRecDepth 8000
open Go.Proofs
theorem adD (p:Pg) (s:St):aB Tryz.prog wT [.agg (bA p)] s (.bool (decide (p.BS≤20000))) s:=by
 refine aB.pure ?_ (by simp only [D.bp,D.ok,gv];rfl) rfl s
 unfold S0
 generalize hp:p.BS=W
 unfold Pg.BS at hp
 obtain⟨a1,a2,a3⟩:=kL p.globals (n:=0) (by omega) (by omega)
 have eG:=fun s=>wC (l:=p.globals) (n:=0) (by omega) (by omega) s
 refine aB.go Hs rfl fun B Q hB hQ=> ?_
 have⟨hF,hP,gA,gB⟩:=bF
 repeat' (first
 | simp only [go_sem,hF,hP,gA,gB]
 | (with_reducible refine CU (eG _) ?_)
 | (with_reducible refine aC hQ ?_;simp only [ay,az,bu,bw,go_sem,hF,hP,gA,gB];repeat' (first | exact Ok.out | with_reducible refine aH ?_ ?_ | (simp;done))))
 refine cO 1 0 (bh.ind (ι:=List Pc×Nat×Int) (fun i=>p.procs.drop i.2.1=i.1∧nh i.1 i.2.2=W∧(i.2.1:Int)≤i.2.2∧i.2.2≤20001) (fun i=>i.1.length)
  (fun i=> [(1, .ptr 0 0),(3, .int .i64 i.2.2),(4, .int .i64 (i.2.1:Int))]) (fun i=>⟨[bA p],[]⟩) ?_ (p.procs,0,dO p.globals 0) ⟨rfl,hp,a2,a1⟩)
 rintro⟨rest,k,c⟩ ⟨g1,hp,g3,g4⟩ IH
 dsimp only at g1 hp g3 g4
 cases rest with
 | nil=>
  have hF:=drop_nil g1
  simp only [nh]at hp
  subst hp
  repeat' (first
 | simp only [go_sem,hF,hP,gA,gB]
 | (with_reducible refine aC hQ ?_;simp only [ay,az,bu,bw,go_sem,hF,hP,gA,gB];repeat' (first | exact Ok.out | with_reducible refine aH ?_ ?_ | (simp;done))))
 | cons f rest=>
  obtain⟨hP,g2,hF,g5⟩:=drop_cons g1
  simp only [nh]at hp
  by_cases hc:c≤20000
  ·have c1:decide (c≤20000)=true:=by simp;omega
   have w3:IntKind.wrap .i64 ((k:Int)+1)=((k+1:Nat):Int):=by rw [cV] <;> omega
   rw [if_pos hc]at hp
   obtain⟨r1,r2,r3⟩:=G9 f (n:=c) (by omega) hc
   unfold tf at hp r1 r2
   obtain⟨c1',c2,c3⟩:=kU (t:=f.name) (n:=c) (by omega) g4
   obtain⟨d1,d2,d3⟩:=kL f.vars (n:=cZ f.name c) (by omega) c2
   obtain⟨e1,e2,e3⟩:=kL f.fin (n:=dO f.vars (cZ f.name c)) (by omega) d1
   have eN:=fun s=>qu f.name (n:=c) (by omega) g4 s
   have eV:=fun s=>wC (l:=f.vars) (n:=cZ f.name c) (by omega) c2 s
   have eF:=fun s=>wC (l:=f.fin) (n:=dO f.vars (cZ f.name c)) (by omega) d1 s
   generalize hC:dO f.fin (dO f.vars (cZ f.name c))=C at *
   obtain⟨s1,s2,s3⟩:=zt f.params (n:=C) (by omega) e1
   have eT:=fun s=>Se _ f.body (Nat.le_refl _) (n:=ke f.params C) (by omega) s1 s
   generalize hM:ke f.params C=M at *
   repeat' (first
 | simp only [go_sem,hF,hP,gA,gB,c1,w3]
 | (with_reducible refine CU (eN _) ?_)
 | (with_reducible refine CU (eV _) ?_)
 | (with_reducible refine CU (eF _) ?_)
 | (with_reducible refine aC hQ ?_;simp only [ay,az,bu,bw,go_sem,hF,hP,gA,gB];repeat' (first | exact Ok.out | with_reducible refine aH ?_ ?_ | (simp;done))))
   refine cO 2 0 (bh.ind (ι:=List Pm×Nat×Int) (fun i=>f.params.drop i.2.1=i.1∧ke i.1 i.2.2=M∧(i.2.1:Int)≤i.2.2∧i.2.2≤20001) (fun i=>i.1.length)
    (fun i=> [(1, .ptr 0 0),(3, .int .i64 i.2.2),(4, .int .i64 (k:Int)),(5, .ptr 1 0),(6, .int .i64 (i.2.1:Int))]) (fun i=>⟨[bA p,bG f],[]⟩) ?_ (f.params,0,C) ⟨rfl,hM,by dsimp only;omega,e1⟩)
   rintro⟨ms,j,e⟩ ⟨k1,hw,k3,k4⟩ Bb
   dsimp only at k1 hw k3 k4
   cases ms with
   | nil=>
    have hF:=drop_nil k1
    simp only [ke]at hw
    subst hw
    repeat' (first
 | simp only [go_sem,hF,hP,gA,gB,w3]
 | (with_reducible refine CU (eT _) ?_)
 | (with_reducible refine aC hQ ?_;simp only [ay,az,bu,bw,go_sem,hF,hP,gA,gB];repeat' (first | exact Ok.out | with_reducible refine aH ?_ ?_ | (simp;done))))
    refine cO 1 0 (IH (rest,k+1,fI f.body e) ⟨g2,hp,by dsimp only;omega,r1⟩ (Nat.lt_succ_self _))
   | cons a ms=>
    obtain⟨hP,k2,hF,k5⟩:=drop_cons k1
    simp only [ke]at hw
    by_cases he:e≤20000
    ·have e1:decide (e≤20000)=true:=by simp;omega
     have w4:IntKind.wrap .i64 ((j:Int)+1)=((j+1:Nat):Int):=by rw [cV] <;> omega
     rw [if_pos he]at hw
     obtain⟨v1,v2,v3⟩:=kU (t:=a.name) (n:=e) (by omega) k4
     have v4:=(lU (t:=a.name) (n:=e) (by omega)).2.1 he
     have eM:=fun s=>qu a.name (n:=e) (by omega) k4 s
     repeat' (first
 | simp only [go_sem,hF,hP,gA,gB,e1,w4]
 | (with_reducible refine CU (eM _) ?_)
 | (with_reducible refine aC hQ ?_;simp only [ay,az,bu,bw,go_sem,hF,hP,gA,gB];repeat' (first | exact Ok.out | with_reducible refine aH ?_ ?_ | (simp;done))))
     refine cO 2 0 (Bb (ms,j+1,cZ a.name e) ⟨k2,hw,by dsimp only;omega,v2⟩ (Nat.lt_succ_self _))
    ·have e1:decide (e≤20000)=false:=by simp;omega
     rw [if_neg he]at hw
     subst hw
     repeat' (first
 | simp only [go_sem,hF,hP,gA,gB,e1,w3]
 | (with_reducible refine CU (eT _) ?_)
 | (with_reducible first | refine bq fun hc=> ?_ | refine br fun hc=> ?_ | refine bt (fun hc=> ?_) fun hc=> ?_) <;> (try simp only [hc,bs, ↓reduceIte]at h) <;> try simp only [hc]
 | (with_reducible refine aC hQ ?_;simp only [ay,az,bu,bw,go_sem,hF,hP,gA,gB,e1,w3];repeat' (first | exact Ok.out | with_reducible refine aH ?_ ?_ | (simp;done))))
     refine cO 1 0 (IH (rest,k+1,fI f.body e) ⟨g2,hp,by dsimp only;omega,r1⟩ (Nat.lt_succ_self _))
  ·have c1:decide (c≤20000)=false:=by simp;omega
   rw [if_neg hc]at hp
   subst hp
   repeat' (first
 | simp only [go_sem,hF,hP,gA,gB,c1]
 | (with_reducible first | refine bq fun hc=> ?_ | refine br fun hc=> ?_ | refine bt (fun hc=> ?_) fun hc=> ?_) <;> (try simp only [hc,bs, ↓reduceIte]at h) <;> try simp only [hc]
 | (with_reducible refine aC hQ ?_;simp only [ay,az,bu,bw,go_sem,hF,hP,gA,gB,c1];repeat' (first | exact Ok.out | with_reducible refine aH ?_ ?_ | (simp;done))))
end Go.Abs

/-! MirEq -/

namespace Go.Abs
def adE:List aD→List aD→Bool
 | [],_=>true
 | _::_,[]=>true
 | x::l,y::l'=>if !(x==y)then false else adE l l'
def X5 (l l':List aD):Bool:=if(l.length:Int) != (l'.length:Int)then false else adE l l'
def Ar.pE:List Ar→List Ar→Bool
 | [],_=>true
 | _::_,[]=>true
 | a::l,b::l'=>if !(a.ref==b.ref) || !(a.name==b.name) || !(Ex.beq a.x b.x)then false else Ar.pE l l'
mutual
def Sm.beq:Sm→Sm→Bool
 | ⟨id,kind,labels,name,proc,x,has,args,aQ,aM⟩,⟨id',agO,ZC,OD,uE,x',aqC,DI,adF,adG⟩=>
  if id != id' || kind != agO || !(name==OD) || !(proc==uE) || !(has==aqC) || !(X5 labels ZC) || !(Ex.beq x x') || (args.length:Int) != (DI.length:Int)then false
  else if !(Ar.pE args DI)then false
  else if(if(aQ.length:Int) != (adF.length:Int)then false else Sm.pE aQ adF)then(if(aM.length:Int) != (adG.length:Int)then false else Sm.pE aM adG)else false
def Sm.pE:List Sm→List Sm→Bool
 | [],_=>true
 | _::_,[]=>true
 | s::l,t::l'=>if !(Sm.beq s t)then false else Sm.pE l l'
end
def Sm.adH (l l':List Sm):Bool:=if(l.length:Int) != (l'.length:Int)then false else Sm.pE l l'
def Pm.pE:List Pm→List Pm→Bool
 | [],_=>true
 | _::_,[]=>true
 | a::l,b::l'=>if !((a.name==b.name) && (a.ref==b.ref))then false else Pm.pE l l'
def Pc.pE:List Pc→List Pc→Bool
 | [],_=>true
 | _::_,[]=>true
 | f::l,g::l'=>
  if !(f.name==g.name) || (f.params.length:Int) != (g.params.length:Int) || !(X5 f.vars g.vars) || !(X5 f.fin g.fin) || !(Sm.adH f.body g.body)then false
  else if !(Pm.pE f.params g.params)then false else Pc.pE l l'
def Pg.beq (p q:Pg):Bool:=if !(X5 p.globals q.globals) || (p.procs.length:Int) != (q.procs.length:Int)then false else Pc.pE p.procs q.procs
end Go.Abs

/-! RefEq -/

namespace Go.Abs
set_option maxRecDepth 8000
open Go.Proofs
abbrev aq2 (N:Nat):Prop:=∀ s t:Sm,s.size<N→∀ st:St,aB Tryz.prog Jr [.agg (aU s), .agg (aU t)] st (.bool (Sm.beq s t)) st
abbrev ax3 (N:Nat):Prop:=∀ l l':List Sm,Sm.aR l<N→∀ st:St,aB Tryz.prog Ft [.slice .shared 13 (l.map aU), .slice .shared 13 (l'.map aU)] st (.bool (Sm.adH l l')) st
end Go.Abs

/-! RefEq2 -/

namespace Go.Abs
set_option maxRecDepth 8000
open Go.Proofs
def BT (n:Int):Ex:=⟨1,n,[],[]⟩
def rB (s:aD):Ex:=⟨2,0,s,[]⟩
def EH (op:Int) (a b:Ex):Ex:=⟨op,0,[],[a,b]⟩
theorem agP (n:Int) (s:St):aB Tryz.prog q8 [.int .i64 n] s (.agg (bx (BT n))) s:=by
 refine aB.pure ?_ rfl (by simp [D.ok,gL]) s
 unfold S0
 refine aB.go Jy rfl fun B Q hB hQ=> ?_
 have⟨hF,hP,gA,gB⟩:=bF
 repeat' (first
 | simp only [go_sem,hF,hP,gA,gB,BT]
 | (with_reducible first | refine bq fun hc=> ?_ | refine br fun hc=> ?_ | refine bt (fun hc=> ?_) fun hc=> ?_) <;> (try simp only [hc,bs, ↓reduceIte]at h) <;> try simp only [hc]
 | (with_reducible refine aC hQ ?_;simp only [ay,az,bu,bw,go_sem,hF,hP,gA,gB,BT];repeat' (first | exact Ok.out | with_reducible refine aH ?_ ?_ | (simp;done))))
theorem Pl (t:aD) (s:St):aB Tryz.prog kP [.str t] s (.agg (bx (rB t))) s:=by
 refine aB.pure ?_ rfl (by simp [D.ok,gL]) s
 unfold S0
 refine aB.go HC rfl fun B Q hB hQ=> ?_
 have⟨hF,hP,gA,gB⟩:=bF
 repeat' (first
 | simp only [go_sem,hF,hP,gA,gB,rB]
 | (with_reducible first | refine bq fun hc=> ?_ | refine br fun hc=> ?_ | refine bt (fun hc=> ?_) fun hc=> ?_) <;> (try simp only [hc,bs, ↓reduceIte]at h) <;> try simp only [hc]
 | (with_reducible refine aC hQ ?_;simp only [ay,az,bu,bw,go_sem,hF,hP,gA,gB,rB];repeat' (first | exact Ok.out | with_reducible refine aH ?_ ?_ | (simp;done))))
theorem Sf (op:Int) (a b:Ex) (s:St):aB Tryz.prog uw [.int .i64 op, .agg (bx a), .agg (bx b)] s (.agg (bx (EH op a b))) s:=by
 refine aB.pure ?_ (by simp [D.bp,D.ok,gL]) (by simp [D.ok,gL]) s
 unfold S0
 refine aB.go Jz rfl fun B Q hB hQ=> ?_
 have⟨hF,hP,gA,gB⟩:=bF
 repeat' (first
 | simp only [go_sem,hF,hP,gA,gB,EH]
 | (with_reducible first | refine bq fun hc=> ?_ | refine br fun hc=> ?_ | refine bt (fun hc=> ?_) fun hc=> ?_) <;> (try simp only [hc,bs, ↓reduceIte]at h) <;> try simp only [hc]
 | (with_reducible refine aC hQ ?_;simp only [ay,az,bu,bw,go_sem,hF,hP,gA,gB,EH];repeat' (first | exact Ok.out | with_reducible refine aH ?_ ?_ | (simp;done))))
def source:aD:= [103,108,111,98,97,108,32,103,59,10,112,114,111,99,32,109,97,105,110,40,41,32,123,10,32,118,97,114,32,118,59,10,32,118,32,61,32,50,59,10,32,103,32,61,32,112,40,51,44,32,114,101,102,32,118,41,59,10,32,112,114,105,110,116,32,118,59,10,32,112,114,105,110,116,32,103,59,10,125,10,112,114,111,99,32,112,40,120,44,32,114,101,102,32,121,41,32,123,10,32,121,32,61,32,121,32,43,32,120,59,10,32,105,102,32,40,121,32,62,32,57,41,32,123,10,32,32,103,111,116,111,32,101,59,10,32,125,10,32,114,101,116,117,114,110,32,121,59,10,101,58,32,125,10]
theorem VF (s:St):aB Tryz.prog tz [] s (.str source) s:=by
 refine aB.pure ?_ rfl rfl s
 unfold S0
 refine aB.go DU rfl fun B Q hB hQ=> ?_
 have⟨hF,hP,gA,gB⟩:=bF
 repeat' (first
 | simp only [go_sem,hF,hP,gA,gB,source]
 | (with_reducible first | refine bq fun hc=> ?_ | refine br fun hc=> ?_ | refine bt (fun hc=> ?_) fun hc=> ?_) <;> (try simp only [hc,bs, ↓reduceIte]at h) <;> try simp only [hc]
 | (with_reducible refine aC hQ ?_;(try cases h);simp only [ay,az,bu,bw,go_sem,hF,hP,gA,gB,source];try exact kb)
 | (cases h;done))
def pw:Pg:=⟨[[103]],[
 ⟨[109,97,105,110],[],[[118]],[
  ⟨1,1,[],[118],[],BT 2,false,[],[],[]⟩,
  ⟨2,4,[],[103],[112],nu,false,[⟨false,[],BT 3⟩,⟨true,[118],nu⟩],[],[]⟩,
  ⟨3,3,[],[],[],rB [118],false,[],[],[]⟩,
  ⟨4,3,[],[],[],rB [103],false,[],[],[]⟩],[]⟩,
 ⟨[112],[⟨[120],false⟩,⟨[121],true⟩],[],[
  ⟨5,1,[],[121],[],EH 8 (rB [121]) (rB [120]),false,[],[],[]⟩,
  ⟨6,5,[],[],[],EH 12 (rB [121]) (BT 9),false,[],[⟨7,10,[],[101],[],nu,false,[],[],[]⟩],[]⟩,
  ⟨8,9,[],[],[],rB [121],true,[],[],[]⟩],[[101]]⟩]⟩
theorem adI (s:St):aB Tryz.prog wX [] s (.agg (bA pw)) s:=by
 refine aB.pure ?_ rfl (by simp [D.ok,gv]) s
 unfold S0
 refine aB.go Hw rfl fun B Q hB hQ=> ?_
 have⟨hF,hP,gA,gB⟩:=bF
 repeat' (first
 | simp only [go_sem,hF,hP,gA,gB,pw]
 | (with_reducible refine CU (agP _ _) ?_)
 | (with_reducible refine CU (Pl _ _) ?_)
 | (with_reducible refine CU (Sf _ _ _ _) ?_)
 | (with_reducible refine aC hQ ?_;simp only [ay,az,Option.some.injEq,exists_eq_left',go_sem,hF,hP,gA,gB];repeat' (first | exact Ok.out | with_reducible refine aH ?_ ?_ | (simp;done))))
 repeat' (first | exact Ok.out | with_reducible refine Wk.agg ?_ | with_reducible refine Wk.rows ?_ | with_reducible refine Wk.slice ?_ | with_reducible refine hO.cons ?_ ?_ | with_reducible refine jP.cons ?_ ?_)
end Go.Abs

/-! LawTo1 -/

namespace Go.Abs
open Go.Proofs
def Pg.axk (p:Pg) (n:Int):aD:=match p.procs[(xp n p.procs.length).toNat]? with | some f=>f.name | none=> []
end Go.Abs

/-! AlP -/

namespace Go.Abs
open Go.Proofs
theorem EI {id:Int} : ∀ {l:List It},uF id l=none→∀ i∈l,i.s.id≠id
 | a::l,h,i,m=>by
  simp only [uF]at h
  split at h
  ·cases h
  ·rename_i c
   rcases List.mem_cons.1 m with rfl | m
   ·simpa using c
   ·exact EI h i m
theorem EJ {id:Int} {i:It} : ∀ {l:List It},uF id l=some i→i∈l∧i.s.id=id
 | a::l,h=>by
  simp only [uF]at h
  split at h
  ·rename_i c
   cases h
   exact⟨List.mem_cons_self ..,eq_of_beq c⟩
  ·obtain⟨h1,h2⟩:=EJ h
   exact⟨List.mem_cons_of_mem _ h1,h2⟩
theorem EK {id:Int} {r:It×aD} : ∀ {l:List Pc},ov id l=some r→∃ f∈l,r.1∈f.flat∧r.1.s.id=id∧r.2=f.name
 | f::l,h=>by
  simp only [ov]at h
  split at h
  ·rename_i i e
   cases h
   obtain⟨h1,h2⟩:=EJ e
   exact⟨f,List.mem_cons_self ..,h1,h2,rfl⟩
  ·obtain⟨g,h1,h2⟩:=EK h
   exact⟨g,List.mem_cons_of_mem _ h1,h2⟩
theorem EL {id:Int} : ∀ {l:List Pc},ov id l=none→∀ f∈l,∀ i∈f.flat,i.s.id≠id
 | f::l,h,g,m,i,hi=>by
  simp only [ov]at h
  split at h
  ·cases h
  ·rename_i e
   rcases List.mem_cons.1 m with rfl | m
   ·exact EI e i hi
   ·exact EL h g m i hi
theorem VG {p:Pg} (hb:p.may=true) {id:Int} (h : ∃ v∈p.pre,v.id=id):p.wB id∈p.pre∧(p.wB id).id=id:=by
 obtain⟨v,hv,uc⟩:=h
 have iU:=(zh hb).1
 unfold Pg.wB
 cases e:ov id p.procs with
 | some r=>
  obtain⟨f,h1,h2,h3,_⟩:=EK e
  refine⟨?_,h3⟩
  simp only [Pg.pre,List.mem_flatten,List.mem_map]
  exact⟨_,⟨f,h1,rfl⟩,by rw [← iU f h1];exact List.mem_map_of_mem h2⟩
 | none=>
  simp only [Pg.pre,List.mem_flatten,List.mem_map]at hv
  obtain⟨l,⟨f,hf,rfl⟩,m⟩:=hv
  rw [← iU f hf,List.mem_map]at m
  obtain⟨i,hi,rfl⟩:=m
  exact absurd uc (EL e f hf i hi)
theorem De {k:Int} {x:Int} : ∀ {l:List It},x∈nJ k l↔∃ i∈l,(k==0 || i.s.kind==k)=true∧i.s.id=x
 | []=>by simp [nJ]
 | a::l=>by
  simp only [nJ]
  split
  ·rename_i c
   simp only [List.mem_cons,De (l:=l),exists_eq_or_imp,c,true_and]
   exact or_congr_left ⟨Eq.symm,Eq.symm⟩
  ·rename_i c
   have c':(k==0 || a.s.kind==k)=false:=by simpa using c
   simp only [List.mem_cons,De (l:=l),exists_eq_or_imp,c',Bool.false_eq_true,false_and,false_or]
theorem Sg {l:List Int} {n:Int} (h:ou l n≠0):ou l n∈l:=by
 unfold ou at *
 split
 ·rename_i x e;exact List.mem_of_getElem? e
 ·rename_i e;rw [e]at h;exact absurd rfl h
theorem Si {p:Pg} (hb:p.may=true) {k n:Int} (h:ou (nJ k p.all) n≠0):p.wB (ou (nJ k p.all) n)∈p.pre∧(p.wB (ou (nJ k p.all) n)).id=ou (nJ k p.all) n:=by
 obtain⟨i,h1,_,h2⟩:=De.1 (Sg h)
 exact VG hb ⟨i.s,by rw [← (zh hb).2];exact List.mem_map_of_mem h1,h2⟩
theorem adJ:DM.kA:=⟨wj (by decide +kernel) (by decide +kernel),by decide +kernel⟩
end Go.Abs

/-! LawAl2 -/

namespace Go.Abs
open Go.Proofs
theorem VH {p:Pg} (h:(p.arity.1==0)=true) (h2:(p.alias.1==0)=true) : ∀ v∈p.pre,(v.kind==4)=true→v.pk p=true:=by
 unfold Pg.alias at h2
 rw [if_pos h]at h2
 intro v hv hk
 have : ∀ l:List Sm,((pV 8 (EC p l)).1==0)=true→∀ v∈l,(v.kind==4)=true→v.pk p=true:=by
  intro l
  induction l with
  | nil=>intro _ v m;cases m
  | cons a l ih=>
   intro h v m hk
   simp only [EC]at h
   split at h
   ·cases h
   ·rename_i c
    rcases List.mem_cons.1 m with rfl | m
    ·simpa [hk]using c
    ·exact ih h v m hk
 exact this _ h2 v hv hk
theorem Kj {p:Pg} : ∀ {l:List Sm},(∀ v∈l,(v.kind==4)=true→v.pk p=true)→EC p l=none
 | [],_=>rfl
 | v::l,h=>by
  simp only [EC]
  rw [if_neg,Kj fun w m=>h w (List.mem_cons_of_mem _ m)]
  intro c
  simp only [Bool.and_eq_true,Bool.not_eq_true']at c
  rw [h v (List.mem_cons_self ..) c.1]at c
  exact absurd c.2 (by simp)
end Go.Abs

/-! SwP -/

namespace Go.Abs
section
variable {a b:aD}
end
section
variable {a b:aD} (ha:isName a=true) (hb:isName b=true)
include ha hb
end
def Pg.check (p:Pg):Int×Int:=if p.scope.1==0 then(if p.arity.1==0 then(if p.jump.1==0 then p.alias else p.jump)else p.arity)else p.scope
end Go.Abs

/-! MirMapS -/

namespace Go.Abs
mutual
def Sm.fe (g:Sm→Sm):Sm→Sm
 | ⟨id,kind,labels,name,proc,x,has,args,aQ,aM⟩=> {g ⟨id,kind,labels,name,proc,x,has,args,aQ,aM⟩with aQ:=Sm.kf g aQ,aM:=Sm.kf g aM}
def Sm.kf (g:Sm→Sm):List Sm→List Sm
 | []=> []
 | s::l=>s.fe g::Sm.kf g l
end
def It.fe (g:Sm→Sm) (i:It):It:= {i with s:=i.s.fe g}
def Pc.fe (g:Sm→Sm) (f:Pc):Pc:= {f with body:=Sm.kf g f.body}
def Pg.fe (g:Sm→Sm) (p:Pg):Pg:= {p with procs:=p.procs.map (Pc.fe g)}
theorem ZD (g:Sm→Sm) (s:Sm):s.fe g = {g s with aQ:=Sm.kf g s.aQ,aM:=Sm.kf g s.aM}:=by cases s;rfl
def ep (t:Sm) (v:Sm):Sm:=if v.id==t.id then t else v
end Go.Abs

/-! MapS -/

namespace Go.Abs
theorem Kk {p:Pg} {f:Pc} {procs:List aD} : ∀ {l:List Sm},(∀ v∈l,v.known p f procs=true)→xk p f procs l=none
 | [],_=>rfl
 | v::l,h=>by
  simp only [xk,h v (List.mem_cons_self ..),if_true]
  exact Kk fun w m=>h w (List.mem_cons_of_mem _ m)
theorem EM {p:Pg} {procs:List aD} : ∀ {l:List Pc},(∀ f∈l,ek (p.globals++f.own)=false∧∀ v∈Sm.cD f.body,v.known p f procs=true)→rr p procs l=(0,0)
 | [],_=>rfl
 | f::l,h=>by
  obtain⟨h1,h2⟩:=h f (List.mem_cons_self ..)
  simp only [rr,h1,Bool.false_eq_true,if_false,Kk h2]
  exact EM fun w m=>h w (List.mem_cons_of_mem _ m)
theorem Ha {p:Pg} (hm:p.may=true) (h1:ek p.globals=false) (h2:ek p.pn=false) (h3:p.oX=false) (h4 : ∀ f∈p.procs,ek (p.globals++f.own)=false∧∀ v∈Sm.cD f.body,v.known p f p.pn=true):p.scope=(0,0):=by
 unfold Pg.scope
 rw [if_pos hm,h1,h2,h3]
 exact EM h4
theorem Ma {p:Pg} : ∀ {l:List Sm},(∀ v∈l,(v.kind==4)=true→v.my p=true)→Es p l=none
 | [],_=>rfl
 | v::l,h=>by
  simp only [Es]
  rw [if_neg,Ma fun w m=>h w (List.mem_cons_of_mem _ m)]
  intro c
  simp only [Bool.and_eq_true,Bool.not_eq_true']at c
  rw [h v (List.mem_cons_self ..) c.1]at c
  exact absurd c.2 (by simp)
theorem Sj {p:Pg} (hs:(p.scope.1==0)=true) (h : ∀ v∈p.pre,(v.kind==4)=true→v.my p=true):p.arity=(0,0):=by
 unfold Pg.arity
 rw [if_pos hs,Ma h]
 rfl
end Go.Abs

/-! RightP -/

namespace Go.Abs
theorem EN {kK fin:List aD} : ∀ {l:List (Sm×Int)} {seen:List aD},sL kK fin seen l=none↔pU seen (fl (l.map Prod.fst)++fin)=false∧∀ q∈l,kc kK q.1 q.2=true
 | [],seen=>by
  simp only [sL,List.map_nil,fl,List.nil_append,List.not_mem_nil,false_imp_iff,implies_true,and_true]
  rw [Bt]
  cases pU seen fin <;> simp
 | (v,lp)::l,seen=>by
  simp only [sL,List.map_cons,fl,List.append_assoc]
  rw [Bt,L5 v.labels]
  cases h:pU seen v.labels
  ·simp only [Bool.false_eq_true,if_false,if_true,Bool.false_or]
   cases h2:kc kK v lp
   ·simp only [Bool.false_eq_true,if_false,reduceCtorEq,false_iff,not_and]
    intro _ h3
    have:=h3 (v,lp) (List.mem_cons_self ..)
    rw [h2]at this;cases this
   ·simp only [if_true,EN (l:=l),List.mem_cons]
    constructor
    ·rintro⟨h3,h4⟩
     refine⟨h3,fun q hq=> ?_⟩
     rcases hq with rfl | hq
     ·exact h2
     ·exact h4 q hq
    ·rintro⟨h3,h4⟩
     exact⟨h3,fun q hq=>h4 q (.inr hq)⟩
  ·simp
theorem zv : ∀ {l:List Pc},sM l=none↔∀ f∈l,ek f.labels=false∧∀ q∈f.ry,kc f.labels q.1 q.2=true
 | []=>by simp [sM]
 | f::l=>by
  have e:sL f.labels f.fin [] f.ry=none↔ek f.labels=false∧∀ q∈f.ry,kc f.labels q.1 q.2=true:=by
   rw [EN,Zu];rfl
  simp only [sM,List.mem_cons]
  split
  ·rename_i id h
   simp only [reduceCtorEq,false_iff]
   intro h3
   rw [e.2 (h3 f (.inl rfl))]at h
   cases h
  ·rename_i h
   rw [zv (l:=l)]
   constructor
   ·intro h3 g hg
    rcases hg with rfl | hg
    ·exact e.1 h
    ·exact h3 g hg
   ·exact fun h3 g hg=>h3 g (.inr hg)
structure Pg.Right (p:Pg):Prop where
 may:p.may=true
 tg:ek p.globals=false
 tp:ek p.pn=false
 main:p.oX=false
 own : ∀ f∈p.procs,ek (p.globals++f.own)=false
 known : ∀ f∈p.procs,∀ v∈Sm.cD f.body,v.known p f p.pn=true
 kK : ∀ f∈p.procs,ek f.labels=false
 leads : ∀ f∈p.procs,∀ q∈f.ry,kc f.labels q.1 q.2=true
 fits : ∀ v∈p.pre,(v.kind==4)=true→v.my p=true
 single : ∀ v∈p.pre,(v.kind==4)=true→v.pk p=true
theorem Pg.Right.scope {p:Pg} (h:p.Right):p.scope=(0,0):=Ha h.may h.tg h.tp h.main fun f hf=>⟨h.own f hf,h.known f hf⟩
theorem Pg.Right.arity {p:Pg} (h:p.Right):p.arity=(0,0):=Sj (by rw [h.scope];rfl) h.fits
theorem Pg.Right.jump {p:Pg} (h:p.Right):p.jump=(0,0):=by
 unfold Pg.jump
 rw [h.scope,zv.2 fun f hf=>⟨h.kK f hf,h.leads f hf⟩]
 rfl
theorem Pg.Right.alias {p:Pg} (h:p.Right):p.alias=(0,0):=by
 unfold Pg.alias
 rw [h.arity,Kj h.single]
 rfl
theorem Pg.Right.check {p:Pg} (h:p.Right):p.check=(0,0):=by
 unfold Pg.check
 rw [h.scope,h.arity,h.jump,h.alias]
 rfl
theorem VI {p:Pg} (h:(p.check.1==0)=true):p.Right:=by
 unfold Pg.check at h
 by_cases h1:(p.scope.1==0)=true
 ·rw [if_pos h1]at h
  by_cases h2:(p.arity.1==0)=true
  ·rw [if_pos h2]at h
   by_cases h3:(p.jump.1==0)=true
   ·rw [if_pos h3]at h
    obtain⟨k1,k2,k3,k4⟩:=C9 h1
    have hj:sM p.procs=none:=by
     unfold Pg.jump at h3
     rw [if_pos h1]at h3
     cases e:sM p.procs with
     | none=>rfl
     | some id=>rw [e]at h3;cases h3
    rw [zv]at hj
    exact⟨Bk h1,k1,k2,k3,fun f hf=>(k4 f hf).1,fun f hf=>(k4 f hf).2,fun f hf=>(hj f hf).1,fun f hf=>(hj f hf).2,(Ka h2).2,VH h2 h⟩
   ·rw [if_neg h3]at h;exact absurd h h3
  ·rw [if_neg h2]at h;exact absurd h h2
 ·rw [if_neg h1]at h;exact absurd h h1
end Go.Abs

/-! MayLaw -/

namespace Go.Abs
def TKs (l:List fH):Prop:=∀ t∈l,(t.kind=1→isName t.text=true)∧(t.kind=2→0≤t.n)
def GK {α:Type} (r:Rd) (o:Option (α×Rd)) (Q:α→Prop):Prop:=∀ p,o=some p→p.2.l=r.l∧(p.2.good=true→r.good=true∧Q p.1)
def GKR (r:Rd) (o:Option Rd):Prop:=∀ p,o=some p→p.l=r.l∧(p.good=true→r.good=true)
end Go.Abs

/-! MirNum -/

namespace Go.Abs
def Pt {α:Type} (o:Option α) (Q:α→Prop):Prop:=∀ a,o=some a→Q a
structure aqD (a b:Rd):Prop where
 l:b.l=a.l
 n:b.n=a.n
 g:b.good=true→a.good=true
def SmK (r0:Rd) (p:Sm×Rd):Prop:=aqD r0 p.2∧p.1.aQ = []∧p.1.aM = []
structure Num (r:Rd) (k:Nat) (r':Rd):Prop where
 l:r'.l=r.l
 g:r'.good=true→r.good=true
 n:r'.good=true→k=r'.n
 le:r'.good=true→r.n≤200→r'.n≤200
end Go.Abs

/-! MayLaw2 -/

namespace Go.Abs
def SmL (s:Sm):Prop:=∀ L,dk L=true→({s with labels:=L} : Sm).one=true
def ax4 (s:aD):Bool:=s == [98,114,101,97,107] || s == [99,111,110,116,105,110,117,101] || s == [114,101,116,117,114,110] || s == [103,111,116,111] || s == [114,101,97,100] || s == [112,114,105,110,116]
mutual
def Sm.yo (d:Int):Sm→Prop
 | ⟨id,kind,labels,name,proc,x,has,args,aQ,aM⟩=>(⟨id,kind,labels,name,proc,x,has,args,aQ,aM⟩:Sm).one=true∧d≤12∧Sm.xq (d+1) aQ∧Sm.xq (d+1) aM
def Sm.xq (d:Int):List Sm→Prop
 | []=>True
 | s::l=>s.yo d∧Sm.xq d l
end
theorem Sm.adK (d:Int) (s:Sm):s.yo d↔s.one=true∧d≤12∧Sm.xq (d+1) s.aQ∧Sm.xq (d+1) s.aM:=by cases s;simp only [Sm.yo]
def ayC (d:Int) (s:Sm):Prop:=∀ L,dk L=true→({s with labels:=L} : Sm).yo d
structure Pc.yo (f:Pc):Prop where
 name:isName f.name=true
 params:Pm.eA f.params=true∧f.params.length≤8
 vars:dk f.vars=true∧(f.vars.length:Int)≤16
 fin:dk f.fin=true
 body:Sm.xq 1 f.body
end Go.Abs

/-! MayLaw3 -/

namespace Go.Abs
mutual
theorem Sm.Mb (b:Bool) (n:Nat) : ∀ s:Sm,(Sm.num b n s).2=n+s.fQ
 | ⟨_,_,_,_,_,_,_,_,aQ,aM⟩=>by
  simp only [Sm.num,Sm.fQ]
  rw [Sm.sh b _ aM,Sm.sh b _ aQ];omega
theorem Sm.sh (b:Bool) (n:Nat) : ∀ l:List Sm,(Sm.cE b n l).2=n+Sm.dA l
 | []=>rfl
 | s::l=>by
  simp only [Sm.cE,Sm.dA]
  rw [Sm.sh b _ l,Sm.Mb b _ s];omega
end
theorem Sm.one_num (b:Bool) (n:Nat) (s:Sm):((Sm.num b n s).1).one=s.one:=by
 obtain⟨id,kind,labels,name,proc,x,has,args,aQ,aM⟩:=s
 simp only [Sm.num,Sm.one,Sm.wS,Sm.hasName,Sm.pJ,Sm.Jq]
 rfl
def rC (n:Nat) (nc:List It):Prop:=∀ (j:Nat) (it:It),nc[j]? = some it→it.s.id=((n+j+1:Nat):Int)∧it.deep≤12∧it.s.one=true
theorem rC.app {n k:Nat} {a b:List It} (ha:rC n a) (hk:a.length=k) (hb:rC (n+k) b):rC n (a++b):=by
 intro j it h
 rcases Nat.lt_or_ge j a.length with hj | hj
 ·rw [List.getElem?_append_left hj]at h
  exact ha j it h
 ·rw [List.getElem?_append_right hj]at h
  obtain⟨h1,h2⟩:=hb _ it h
  refine⟨?_,h2⟩
  rw [h1];congr 1;omega
theorem rC.nil (n:Nat):rC n []:=fun j it h=>by simp at h
mutual
theorem Sk : ∀ (s:Sm) (n:Nat) (deep bO:Int) (aM:Bool) (out:List It),s.yo deep→out.length+s.fQ≤200→∃ nc,fT deep bO aM out (Sm.num true n s).1=out++nc∧nc.length=s.fQ∧rC n nc
 | ⟨id,kind,labels,name,proc,x,has,args,aQ,e⟩,n,deep,bO,aM,out,h,hc=>by
  have h0:=(Sm.adK _ _).1 h
  obtain⟨h1,h2,h3,h4⟩:=h0
  dsimp only at h3 h4
  have fW:=Sm.one_num true n ⟨id,kind,labels,name,proc,x,has,args,aQ,e⟩
  simp only [Sm.num, ↓reduceIte,fT]at fW ⊢
  rw [h1]at fW
  simp only [Sm.fQ]at hc
  have hd:decide (deep≤12)=true:=by simp;omega
  simp only [hd, ↓reduceIte]
  obtain⟨i1,e1,l1,p1⟩:=wD aQ (n+1) (deep+1) ((n+1:Nat):Int) false (out++ [⟨⟨((n+1:Nat):Int),kind,labels,name,proc,x,has,args,(Sm.cE true (n+1) aQ).1,(Sm.cE true (Sm.cE true (n+1) aQ).2 e).1⟩,deep,bO,aM⟩]) h3 (by simp;omega)
  rw [e1,Sm.sh]
  obtain⟨i2,e2,l2,p2⟩:=wD e (n+1+Sm.dA aQ) (deep+1) ((n+1:Nat):Int) true (out++ [⟨⟨((n+1:Nat):Int),kind,labels,name,proc,x,has,args,(Sm.cE true (n+1) aQ).1,(Sm.cE true (n+1+Sm.dA aQ) e).1⟩,deep,bO,aM⟩]++i1) h4 (by simp;omega)
  rw [e2]
  rw [Sm.sh]at fW
  refine⟨_,by rw [List.append_assoc,List.append_assoc], ?_, ?_⟩
  ·simp only [List.length_append,List.length_cons,List.length_nil,Sm.fQ];omega
  ·refine rC.app (k:=1) ?_ rfl (rC.app p1 l1 p2)
   intro j it hj
   cases j with
   | zero=>simp at hj;subst hj;exact⟨rfl,h2,fW⟩
   | succ j=>simp at hj
theorem wD : ∀ (l:List Sm) (n:Nat) (deep bO:Int) (aM:Bool) (out:List It),Sm.xq deep l→out.length+Sm.dA l≤200→∃ nc,dw deep bO aM out (Sm.cE true n l).1=out++nc∧nc.length=Sm.dA l∧rC n nc
 | [],n,deep,bO,aM,out,h,hc=>⟨[],by simp only [Sm.cE,dw,List.append_nil],rfl,rC.nil n⟩
 | s::l,n,deep,bO,aM,out,h,hc=>by
  simp only [Sm.dA]at hc
  have hle:decide ((out.length:Int)≤200)=true:=by simp only [decide_eq_true_eq];omega
  simp only [Sm.cE,dw,hle, ↓reduceIte]
  obtain⟨i1,e1,l1,p1⟩:=Sk s n deep bO aM out h.1 (by omega)
  rw [e1,Sm.Mb]
  obtain⟨i2,e2,l2,p2⟩:=wD l (n+s.fQ) deep bO aM (out++i1) h.2 (by simp;omega)
  rw [e2]
  exact⟨i1++i2,by rw [List.append_assoc],by simp only [List.length_append,Sm.dA];omega,rC.app p1 l1 p2⟩
end
def Pc.ow:List Pc→Nat
 | []=>0
 | f::l=>Sm.dA f.body+Pc.ow l
theorem Kl : ∀ (l:List Pc) (n:Nat) (out:List It),(∀ f∈l,f.yo)→out.length+Pc.ow l≤200→∃ nc,allM out (Pc.cE n l)=out++nc∧nc.length=Pc.ow l∧rC n nc
 | [],n,out,_,_=>⟨[],by simp only [Pc.cE,allM,List.append_nil],rfl,rC.nil n⟩
 | f::l,n,out,h,hc=>by
  simp only [Pc.ow]at hc
  obtain⟨i1,e1,l1,p1⟩:=wD f.body n 1 0 false [] (h f (List.mem_cons_self ..)).body (by simp;omega)
  have ef:Pc.flat {f with body:=(Sm.cE true n f.body).1} = i1:=by simp only [Pc.flat];rw [e1];rfl
  have hle:decide (((out++i1).length:Int) > 200)=false:=by simp only [List.length_append,decide_eq_false_iff_not];omega
  simp only [Pc.cE,allM,ef,hle,Bool.false_eq_true, ↓reduceIte]
  rw [Sm.sh]
  obtain⟨i2,e2,l2,p2⟩:=Kl l (n+Sm.dA f.body) (out++i1) (fun g hg=>h g (List.mem_cons_of_mem _ hg)) (by simp;omega)
  rw [e2]
  exact⟨i1++i2,by rw [List.append_assoc],by simp only [List.length_append,Pc.ow];omega,rC.app p1 l1 p2⟩
theorem rC.eA : ∀ (l:List It) (n:Nat),rC n l→It.eA n l=true
 | [],_,_=>rfl
 | i::l,n,h=>by
  obtain⟨h1,h2,h3⟩:=h 0 i rfl
  have e1:(i.s.id != ((n+1:Nat):Int))=false:=by rw [h1];simp
  have e2:decide (i.deep > 12)=false:=by simp;omega
  simp only [It.eA,e1,e2,h3,Bool.not_true,Bool.or_self,Bool.false_eq_true, ↓reduceIte]
  refine rC.eA l (n+1) fun j it hj=> ?_
  have:=h (j+1) it (by simpa using hj)
  refine⟨?_,this.2⟩
  rw [this.1];congr 1;omega
theorem Hb : ∀ (l:List Pc) (n:Nat),(∀ f∈l,f.yo)→Pc.lQ (Pc.cE n l)=true
 | [],_,_=>rfl
 | f::l,n,h=>by
  have k:=h f (List.mem_cons_self ..)
  have e1:decide ((f.params.length:Int) > 8)=false:=by have:=k.params.2;simp only [decide_eq_false_iff_not];omega
  have e2:decide ((f.vars.length:Int) > 16)=false:=by have:=k.vars.2;simp only [decide_eq_false_iff_not];omega
  simp only [Pc.cE,Pc.lQ,k.name,e1,e2,k.vars.1,k.fin,k.params.1,Bool.not_true,Bool.or_self,Bool.false_eq_true, ↓reduceIte]
  exact Hb l _ fun g hg=>h g (List.mem_cons_of_mem _ hg)
theorem Pc.Mc : ∀ (l:List Pc) (n:Nat),(Pc.cE n l).length=l.length
 | [],_=>rfl
 | g::l,n=>by simp only [Pc.cE,List.length_cons,Pc.Mc l]
theorem Po {p:Pg} (h1:dk p.globals=true) (h2:(p.globals.length:Int)≤16) (h3 : ∀ f∈p.procs,f.yo) (h4:p.procs.length≤16) (h5:Pc.ow p.procs≤200):p.number.may=true∧p.number.all.length=Pc.ow p.procs:=by
 obtain⟨nc,e,hl,hi⟩:=Kl p.procs 0 [] h3 (by simpa using h5)
 have ea:p.number.all=nc:=by simp only [Pg.all,Pg.number];rw [e];rfl
 have e1:decide ((p.globals.length:Int) > 16)=false:=by simp only [decide_eq_false_iff_not];omega
 have e2:decide (((Pc.cE 0 p.procs).length:Int) > 16)=false:=by rw [Pc.Mc];simp only [decide_eq_false_iff_not];omega
 have e3:decide ((nc.length:Int) > 200)=false:=by simp only [decide_eq_false_iff_not];omega
 refine⟨?_,by rw [ea,hl]⟩
 have e0:p.number.may=(if decide ((p.globals.length:Int) > 16) || decide (((Pc.cE 0 p.procs).length:Int) > 16) || !(dk p.globals)then false
  else if !(Pc.lQ (Pc.cE 0 p.procs))then false else if decide ((p.number.all.length:Int) > 200)then false else It.eA 0 p.number.all):=rfl
 rw [e0,ea]
 simp only [e1,e2,h1,Hb _ 0 h3,e3,Bool.not_true,Bool.or_self,Bool.false_eq_true, ↓reduceIte]
 exact rC.eA nc 0 hi
end Go.Abs

/-! SubP -/

namespace Go.Abs
def Sm.core (v:Sm):Sm:= {v with id:=0,aQ:= [],aM:= []}
theorem Bv (v:Sm):v.core.said=v.said:=by cases v;rfl
theorem oZ (v:Sm):v.core.kind=v.kind:=rfl
theorem EO (p:Pg) (f:Pc) (l:List aD) (v:Sm):v.core.known p f l=v.known p f l:=by unfold Sm.known;rw [Bv];rfl
theorem Hc (p:Pg) (v:Sm):v.core.my p=v.my p:=rfl
theorem Cx (p:Pg) (v:Sm):v.core.pk p=v.pk p:=rfl
theorem Sl (kK:List aD) (v:Sm) (lp:Int):kc kK v.core lp=kc kK v lp:=rfl
theorem Sn (kK:List aD) (v:Sm) (lp lp':Int) (h:(lp != 0)=(lp' != 0)):kc kK v lp=kc kK v lp':=by unfold kc;rw [h]
mutual
def Sm.cp (b:Bool):Sm→List (Sm×Bool)
 | ⟨id,kind,labels,name,pc,x,has,args,aQ,aM⟩=>((⟨id,kind,labels,name,pc,x,has,args,aQ,aM⟩:Sm).core,b)::(Sm.kB (b || kind==6) aQ++Sm.kB (b || kind==6) aM)
def Sm.kB (b:Bool):List Sm→List (Sm×Bool)
 | []=> []
 | s::l=>s.cp b++Sm.kB b l
end
mutual
theorem adL (proc up next loop:Int) : ∀ s:Sm,(∀ v∈s.pre,v.id≠0)→(s.vx proc up next loop).map (fun m=>(m.s.core,m.loop != 0))=s.cp (loop != 0)
 | ⟨id,kind,labels,name,pc,x,has,args,aQ,aM⟩,h=>by
  have uc:id≠0:=h ⟨id,kind,labels,name,pc,x,has,args,aQ,aM⟩ (by simp [Sm.pre])
  have h1 : ∀ v∈Sm.cD aQ,v.id≠0:=fun v m=>h v (by simp [Sm.pre,m])
  have h2 : ∀ v∈Sm.cD aM,v.id≠0:=fun v m=>h v (by simp [Sm.pre,m])
  have e:((if kind==6 then id else loop) != 0)=((loop != 0) || kind==6):=by
   cases hk:(kind==6) <;> simp [uc]
  simp only [Sm.vx,Sm.cp,List.map_cons,List.map_append,BU _ _ _ _ aQ h1,BU _ _ _ _ aM h2,e]
theorem BU (proc up next loop:Int) : ∀ l:List Sm,(∀ v∈Sm.cD l,v.id≠0)→(Sm.kq proc up next loop l).map (fun m=>(m.s.core,m.loop != 0))=Sm.kB (loop != 0) l
 | [],_=>rfl
 | s::l,h=>by
  simp only [Sm.kq,Sm.kB,List.map_append]
  rw [adL _ _ _ _ s fun v m=>h v (by simp [Sm.cD,m]),BU _ _ _ _ l fun v m=>h v (by simp [Sm.cD,m])]
end
def Pc.kB (f:Pc):List (Sm×Bool):=Sm.kB false f.body
theorem Sp {f:Pc} (h : ∀ v∈Sm.cD f.body,v.id≠0):f.ry.map (fun q=>(q.1.core,q.2 != 0))=f.kB:=by
 have:=BU 0 0 (-1) 0 f.body h
 unfold Pc.ry Pc.kB
 rw [List.map_map]
 exact this
mutual
theorem adM (b:Bool) : ∀ s:Sm,(s.cp b).map Prod.fst=s.pre.map Sm.core
 | ⟨id,kind,labels,name,pc,x,has,args,aQ,aM⟩=>by simp only [Sm.cp,Sm.pre,List.map_cons,List.map_append,si _ aQ,si _ aM]
theorem si (b:Bool) : ∀ l:List Sm,(Sm.kB b l).map Prod.fst=(Sm.cD l).map Sm.core
 | []=>rfl
 | s::l=>by simp only [Sm.kB,Sm.cD,List.map_append,adM _ s,si _ l]
end
theorem xr : ∀ l:List Sm,fl (l.map Sm.core)=fl l
 | []=>rfl
 | v::l=>by simp only [List.map_cons,fl,xr l];rfl
theorem px (f:Pc):f.labels=fl (f.kB.map Prod.fst)++f.fin:=by
 unfold Pc.labels Pc.kB
 rw [si,xr]
theorem zw {x:aD} : ∀ {l:List Sm},x∈fl l↔∃ v∈l,x∈v.labels
 | []=>by simp [fl]
 | v::l=>by simp [fl,zw (l:=l)]
theorem Pp {l m:List Sm} (h:List.Sublist l m):List.Sublist (fl l) (fl m):=by
 induction h with
 | slnil=>exact List.Sublist.refl _
 | cons a _ ih=>exact ih.trans (List.sublist_append_right _ _)
 | cons_cons a _ ih=>exact List.Sublist.append (List.Sublist.refl _) ih
theorem Bx {x:aD} : ∀ {l:List Sm},x∈qd l↔∃ v∈l,x∈v.said
 | []=>by simp [qd]
 | v::l=>by simp [qd,Bx (l:=l)]
structure Pc.Part (g f:Pc):Prop where
 name:g.name=f.name
 params:g.params=f.params
 vars:g.vars=f.vars
 fin:g.fin=f.fin
 sub:List.Sublist g.kB f.kB
 VJ : ∀ c∈g.kB,c.1.kind=10→c.1.name∈f.labels→c.1.name∈g.labels
structure Pg.Part (q p:Pg):Prop where
 yY:q.globals=p.globals
 procs : ∃ l:List (Pc×Pc),q.procs=l.map Prod.fst∧(l.map Prod.snd).Perm p.procs∧∀ x∈l,Pc.Part x.1 x.2
theorem rD {nm:aD} : ∀ {l:List Pc} {f:Pc},(l.map (·.name)).Nodup→(jl nm l=some f↔f∈l∧f.name=nm)
 | [],f,_=>by simp [jl]
 | a::l,f,h=>by
  simp only [List.map_cons,List.nodup_cons]at h
  simp only [jl]
  by_cases e:(a.name==nm)=true
  ·rw [if_pos e]
   have e':a.name=nm:=by simpa using e
   constructor
   ·intro h1;cases h1;exact⟨List.mem_cons_self ..,e'⟩
   ·rintro⟨h1,h2⟩
    rcases List.mem_cons.1 h1 with rfl | h1
    ·rfl
    ·exact absurd (List.mem_map_of_mem (f:=fun x:Pc=>x.name) h1) (by show f.name∉_;rw [h2, ← e'];exact h.1)
  ·rw [if_neg e,rD h.2]
   constructor
   ·exact fun⟨h1,h2⟩=>⟨List.mem_cons_of_mem _ h1,h2⟩
   ·rintro⟨h1,h2⟩
    rcases List.mem_cons.1 h1 with rfl | h1
    ·exact absurd (by simpa using h2) e
    ·exact⟨h1,h2⟩
theorem xu {nm:aD} {T T':List aD} (hT : ∀ x,dX T' x=true→dX T x=true) : ∀ {l:List Ar} {seen:List aD},lI nm T seen l=true→lI nm T' seen l=true
 | [],_,_=>rfl
 | a::l,seen,h=>by
  simp only [lI]at h ⊢
  split
  ·rename_i hr
   rw [if_pos hr]at h
   split at h
   ·cases h
   ·rename_i hc
    simp only [Bool.or_eq_true,not_or,Bool.not_eq_true]at hc
    have hx:dX T' a.name=false:=by
     cases e:dX T' a.name with
     | false=>rfl
     | true=>rw [hT _ e]at hc;exact absurd hc.2.2 (by simp)
    rw [if_neg (by simp only [Bool.or_eq_true,not_or,Bool.not_eq_true];exact⟨hc.1,hc.2.1,hx⟩)]
    exact xu hT h
  ·rename_i hr
   rw [if_neg hr]at h
   exact xu hT h
theorem Md {p:Pg} (h:p.may=true) {f:Pc} (hf:f∈p.procs) : ∀ v∈Sm.cD f.body,v.id≠0:=fun v m=>by
 have hm:v∈p.pre:=by simp only [Pg.pre,List.mem_flatten,List.mem_map];exact⟨_,⟨f,hf,rfl⟩,m⟩
 obtain⟨i,hi⟩:=List.getElem?_of_mem hm
 have:=Bj h hi
 omega
theorem Me {kK:List aD} {f:Pc} (h : ∀ v∈Sm.cD f.body,v.id≠0):(∀ q∈f.ry,kc kK q.1 q.2=true)↔∀ c∈f.kB,kc kK c.1 (if c.2 then 1 else 0)=true:=by
 rw [← Sp h]
 have key : ∀ q:Sm×Int,kc kK q.1.core (if(q.2 != 0)=true then 1 else 0)=kc kK q.1 q.2:=fun q=>by
  rw [Sl]
  exact Sn kK q.1 _ _ (by cases (q.2 != 0) <;> rfl)
 constructor
 ·intro h1 c hc
  obtain⟨q,hq,rfl⟩:=List.mem_map.1 hc
  rw [key];exact h1 q hq
 ·intro h1 q hq
  have:=h1 _ (List.mem_map_of_mem hq)
  rw [key]at this;exact this
theorem Pq {p q:Pg} (hp:p.Right) (hq:q.may=true) (h:q.Part p):q.Right:=by
 obtain⟨hg,l,D6,ml,hl3⟩:=h
 have nd:(p.procs.map (·.name)).Nodup:=by
  have:=hp.tp
  unfold Pg.pn at this
  cases e:ek (p.procs.map (·.name))with
  | true=>rw [e]at this;cases this
  | false=>
   by_cases hn:(p.procs.map (·.name)).Nodup
   ·exact hn
   ·rw [(qH _).2 hn]at e;cases e
 have hpn:(q.pn).Perm p.pn:=by
  unfold Pg.pn
  have h1:q.procs.map (·.name)=(l.map Prod.snd).map (·.name):=by
   rw [D6,List.map_map,List.map_map]
   exact List.map_congr_left fun x m=>(hl3 x m).name
  rw [h1]
  exact ml.map _
 have ndq:(q.procs.map (·.name)).Nodup:=hpn.nodup_iff.2 nd
 have tpq:ek q.pn=false:=by
  cases e:ek q.pn with
  | false=>rfl
  | true=>exact absurd ndq ((qH _).1 e)
 have Mf : ∀ g∈q.procs,∃ f∈p.procs,Pc.Part g f:=fun g m=>by
  rw [D6]at m
  obtain⟨x,hx,rfl⟩:=List.mem_map.1 m
  exact⟨x.2,ml.mem_iff.1 (List.mem_map_of_mem hx),hl3 x hx⟩
 have ofp : ∀ f∈p.procs,∃ g∈q.procs,Pc.Part g f:=fun f m=>by
  obtain⟨x,hx,rfl⟩:=List.mem_map.1 (ml.mem_iff.2 m)
  exact⟨x.1,by rw [D6];exact List.mem_map_of_mem hx,hl3 x hx⟩
 have fq : ∀ {nm:aD} {g:Pc},q.find nm=some g→∃ f,p.find nm=some f∧Pc.Part g f:=fun {nm g} e=>by
  obtain⟨h1,h2⟩:=(rD ndq).1 e
  obtain⟨f,hf,iN⟩:=Mf g h1
  exact⟨f,(rD nd).2 ⟨hf,by rw [← iN.name];exact h2⟩,iN⟩
 have fp : ∀ {nm:aD} {f:Pc},p.find nm=some f→∃ g,q.find nm=some g∧Pc.Part g f:=fun {nm f} e=>by
  obtain⟨h1,h2⟩:=(rD nd).1 e
  obtain⟨g,pI,iN⟩:=ofp f h1
  exact⟨g,(rD ndq).2 ⟨pI,by rw [iN.name];exact h2⟩,iN⟩
 -- a part's statements
 have st : ∀ {g f:Pc},Pc.Part g f→∀ v∈Sm.cD g.body,∃ u∈Sm.cD f.body,u.core=v.core:=fun {g f} iN v m=>by
  have h1:v.core∈g.kB.map Prod.fst:=by unfold Pc.kB;rw [si];exact List.mem_map_of_mem m
  obtain⟨c,hc,e⟩:=List.mem_map.1 h1
  have h2:v.core∈f.kB.map Prod.fst:=by rw [← e];exact List.mem_map_of_mem (iN.sub.subset hc)
  unfold Pc.kB at h2
  rw [si]at h2
  obtain⟨u,hu,e2⟩:=List.mem_map.1 h2
  exact⟨u,hu,e2⟩
 have has : ∀ x,dX q.pn x=dX p.pn x:=fun x=>by
  have h1:=fF q.pn x
  have h2:=fF p.pn x
  have h3:=hpn.mem_iff (a:=x)
  rw [Bool.eq_iff_iff,h1,h2,h3]
 have kind : ∀ {g f:Pc},Pc.Part g f→∀ n,g.ku q n=f.ku p n:=fun {g f} iN n=>by unfold Pc.ku;rw [iN.vars,iN.params,hg]
 have known : ∀ g∈q.procs,∀ v∈Sm.cD g.body,v.known q g q.pn=true:=fun g m v mv=>by
  obtain⟨f,hf,iN⟩:=Mf g m
  obtain⟨u,hu,e⟩:=st iN v mv
  have:=hp.known f hf u hu
  rw [← EO,e,EO]at this
  unfold Sm.known at this ⊢
  rw [has]
  simpa only [kind iN]using this
 have own : ∀ g∈q.procs,ek (q.globals++g.own)=false:=fun g m=>by
  obtain⟨f,hf,iN⟩:=Mf g m
  have:=hp.own f hf
  unfold Pc.own Pc.Bi at this ⊢
  rw [hg,iN.params,iN.vars];exact this
 have main:q.oX=false:=by
  have h1:=hp.main
  unfold Pg.oX at h1 ⊢
  cases e:p.find qa with
  | none=>rw [e]at h1;cases h1
  | some f=>
   rw [e]at h1
   obtain⟨g,pI,iN⟩:=fp e
   rw [pI]
   simpa only [iN.params]using h1
 have tg:ek q.globals=false:=by rw [hg];exact hp.tg
 have ll:q.scope=(0,0):=Ha hq tg tpq main fun g m=>⟨own g m,known g m⟩
 have ayD:(q.scope.1==0)=true:=by rw [ll];rfl
 have adP:(p.scope.1==0)=true:=by rw [hp.scope];rfl
 -- who is called, what is touched
 have calls : ∀ x y,y∈nY q x→y∈nY p x:=fun x y m=>by
  unfold nY at m ⊢
  cases e:q.find x with
  | none=>rw [e]at m;cases m
  | some g=>
   rw [e]at m
   obtain⟨f,hf,iN⟩:=fq e
   rw [hf]
   obtain⟨v,hv,h1,h2⟩:=Bp.1 m
   obtain⟨u,hu,e2⟩:=st iN v hv
   refine Bp.2 ⟨u,hu, ?_, ?_⟩
   ·rw [← oZ,e2,oZ];exact h1
   ·rw [show u.proc=u.core.proc from rfl,e2];exact h2
 have work : ∀ {nm:aD} {f:Pc},p.find nm=some f→∀ x∈q.work nm,x∈p.work nm:=fun {nm f} hf x m=>by
  unfold Pg.work at m
  refine Ez (p:=q) (S:=fun x=>x∈p.work nm) (fun x hx y hy=> ?_) _ _ _ (fun x hx=> ?_) x m
  ·exact Cw adP _ _ _ (zj hf) (by omega) (fun j x hj=>absurd hj (Nat.not_lt_zero _)) _ hx _ (calls x y hy)
  ·rw [List.mem_singleton]at hx
   subst hx
   exact J3 p _ _ _ (by simp)
 have body : ∀ n x,x∈qd (na q n)→x∈qd (na p n):=fun n x m=>by
  unfold na at m ⊢
  cases e:q.find n with
  | none=>rw [e]at m;cases m
  | some g=>
   rw [e]at m
   obtain⟨f,hf,iN⟩:=fq e
   rw [hf]
   obtain⟨v,hv,h1⟩:=Bx.1 m
   obtain⟨u,hu,e2⟩:=st iN v hv
   exact Bx.2 ⟨u,hu,by rw [← Bv,e2,Bv];exact h1⟩
 have Ib : ∀ nm x,dX (q.ln nm) x=true→dX (p.ln nm) x=true:=fun nm x m=>by
  rw [fF]at m ⊢
  cases e:q.sg nm with
  | none=>unfold Pg.ln at m;rw [e]at m;cases m
  | some g=>
   obtain⟨_,eg⟩:=Br e
   obtain⟨f,hf,iN⟩:=fq eg
   have ef:p.sg nm=some f:=by unfold Pg.sg;rw [if_pos adP];exact hf
   rw [G6 e]at m
   rw [G6 ef]
   obtain⟨⟨n,hn,hx⟩,Ew⟩:=m
   exact⟨⟨n,work hf n hn,body n x hx⟩,by rw [← hg];exact Ew⟩
 have pre : ∀ v∈q.pre,∃ u∈p.pre,u.core=v.core:=fun v m=>by
  simp only [Pg.pre,List.mem_flatten,List.mem_map]at m
  obtain⟨_,⟨g,pI,rfl⟩,mv⟩:=m
  obtain⟨f,hf,iN⟩:=Mf g pI
  obtain⟨u,hu,e⟩:=st iN v mv
  exact⟨u,by simp only [Pg.pre,List.mem_flatten,List.mem_map];exact⟨_,⟨f,hf,rfl⟩,hu⟩,e⟩
 refine⟨hq,tg,tpq,main,own,known,fun g m=> ?_,fun g m=> ?_,fun v m hk=> ?_,fun v m hk=> ?_⟩
 ·obtain⟨f,hf,iN⟩:=Mf g m
  have h1:=hp.kK f hf
  cases e:ek g.labels with
  | false=>rfl
  | true=>
   exfalso
   refine(qH _).1 e ?_
   have h2:f.labels.Nodup:=by
    by_cases hn:f.labels.Nodup
    ·exact hn
    ·rw [(qH _).2 hn]at h1;cases h1
   refine h2.sublist ?_
   rw [px g,px f,iN.fin]
   exact List.Sublist.append (Pp (iN.sub.map _)) (List.Sublist.refl _)
 ·obtain⟨f,hf,iN⟩:=Mf g m
  rw [Me (Md hq m)]
  have h1:=(Me (kK:=f.labels) (Md hp.may hf)).1 (hp.leads f hf)
  intro c hc
  have h2:=h1 c (iN.sub.subset hc)
  unfold kc at h2 ⊢
  split
  ·rename_i hk;rw [if_pos hk]at h2;exact h2
  ·rename_i hk
   rw [if_neg hk]at h2
   split
   ·rename_i bW
    rw [if_pos bW]at h2
    rw [fF]at h2 ⊢
    exact iN.VJ c hc (by simpa using bW) h2
   ·rfl
 ·obtain⟨u,hu,e⟩:=pre v m
  have tL:(u.kind==4)=true:=by rw [← oZ,e,oZ];exact hk
  have:=hp.fits u hu tL
  rw [← Hc,e,Hc]at this
  unfold Sm.my at this ⊢
  rw [hk]at this ⊢
  simp only [Bool.true_and]at this ⊢
  cases e2:p.find v.proc with
  | none=>rw [e2]at this;cases this
  | some f=>
   rw [e2]at this
   obtain⟨g,pI,iN⟩:=fp e2
   rw [pI]
   simpa only [iN.params]using this
 ·obtain⟨u,hu,e⟩:=pre v m
  have tL:(u.kind==4)=true:=by rw [← oZ,e,oZ];exact hk
  have:=hp.single u hu tL
  rw [← Cx,e,Cx]at this
  unfold Sm.pk at this ⊢
  exact xu (Ib v.proc) this
end Go.Abs

/-! Cp1 -/

namespace Go.Abs
set_option maxRecDepth 8000
open Go.Proofs
theorem Df {size bytes:Nat} {rows:List (List D)} (h:rows≠ []) (hl:rows.length*(bytes+1)≤bl) {z:Nat} {g:Tag} (o:List (List D)) (T:List (Option Nat)) :
 jA size bytes (.slice .full z []) (.slice g size rows) ⟨o,T⟩=some (.slice (.tok T.length) size rows,⟨o,T++ [some rows.length]⟩):=by
 cases rows with
 | nil=>exact absurd rfl h
 | cons x r=>simp only [List.length_cons]at hl;simp [jA,hl]
theorem Dg {size bytes z z':Nat} {g:Tag} (o:List (List D)) (T:List (Option Nat)) :
 jA size bytes (.slice .full z []) (.slice g z' []) ⟨o,T⟩=some (.slice .full z [],⟨o,T⟩):=by simp [jA,bl]
theorem uH {l:List aD} (hl:l.length≤10000000) (s:St):aB Tryz.prog mP [.slice .shared 1 (l.map encStr)] s (.slice .shared 1 (l.map encStr)) s:=by
 refine aB.pure ?_ (by simp [D.bp,D.ok,eD,Tag.ok]) (by rw [D.ok,eD];rfl) s
 unfold S0
 cases l with
 | nil=>
  simp only [List.map_nil]
  have ha:=fun o T=>Dg (size:=1) (bytes:=16) (z:=0) (z':=1) (g:= .shared) o T
  refine aB.go x9 rfl fun B Q hB hQ=> ?_
  have⟨hF,hP,gA,gB⟩:=bF
  repeat' (first
 | simp only [go_sem,hF,hP,gA,gB,ha]
 | (with_reducible first | refine bq fun hc=> ?_ | refine br fun hc=> ?_ | refine bt (fun hc=> ?_) fun hc=> ?_) <;> (try simp only [hc,bs, ↓reduceIte]at h) <;> try simp only [hc]
 | (with_reducible refine aC hQ ?_;(try cases h);simp only [ay,az,bu,bw,go_sem,hF,hP,gA,gB,ha];try exact kb)
 | (cases h;done))
 | cons x l=>
  have ha:=fun o T=>Df (size:=1) (bytes:=16) (rows:=(x::l).map encStr) (by simp) (by simp only [List.length_map];unfold bl;omega) (z:=0) (g:= .shared) o T
  have hf:=Jl 0 0 (x::l)
  generalize (x::l).map encStr=R at *
  refine aB.go x9 rfl fun B Q hB hQ=> ?_
  have⟨hF,hP,gA,gB⟩:=bF
  repeat' (first
 | simp only [go_sem,hF,hP,gA,gB,ha,hf]
 | (with_reducible first | refine bq fun hc=> ?_ | refine br fun hc=> ?_ | refine bt (fun hc=> ?_) fun hc=> ?_) <;> (try simp only [hc,bs, ↓reduceIte]at h) <;> try simp only [hc]
 | (with_reducible refine aC hQ ?_;(try cases h);simp only [ay,az,bu,bw,go_sem,hF,hP,gA,gB,ha,hf];try exact kb)
 | (cases h;done))
theorem Pr : ∀ n,n<1073741824→∀ x:Ex,x.size≤n→aB Tryz.prog jh [.agg (bx x)] S0 (.agg (bx x)) S0:=by
 intro n
 induction n with
 | zero=>rintro _ ⟨op,m,name,kids⟩ h;simp only [Ex.size]at h;omega
 | succ n Rg=>
 rintro hn ⟨op,m,name,kids⟩ hx
 have hk : ∀ y∈kids,∀ s,aB Tryz.prog jh [.agg (bx y)] s (.agg (bx y)) s:=fun y hy s=>
  (Rg (by omega) y (by simp only [Ex.size]at hx;have:=Ex.bT hy;omega)).pure (by simp [D.bp,D.ok,gL]) (by simp [D.ok,gL]) s
 have hlen:kids.length<1073741824:=by simp only [Ex.size]at hx;have:=Ex.cM kids;omega
 unfold S0
 refine aB.go B8 rfl fun B Q hB hQ=> ?_
 have⟨hF,hP,gA,gB⟩:=bF
 repeat' (first
 | simp only [go_sem,hF,hP,gA,gB]
 | (with_reducible first | refine bq fun hc=> ?_ | refine br fun hc=> ?_ | refine bt (fun hc=> ?_) fun hc=> ?_) <;> (try simp only [hc,bs, ↓reduceIte]at h) <;> try simp only [hc]
 | (with_reducible refine aC hQ ?_;exact jR)
 | (cases h;done))
 refine bh.rY 2 3 4 rfl rfl ?_
 simp only [go_sem,hF,hP,gA,gB]
 refine cO 3 1 (bh.ind (ι:=List Ex×Nat×List Ex) (fun i=>kids.drop i.2.1=i.1∧i.2.1=i.2.2.length∧i.2.2++i.1=kids) (fun i=>i.1.length)
  (fun i=> [(1, .ptr 0 0),(2, .ptr 1 0),(3, .ptr 2 0),(14, .int .i64 (kids.length:Int)),(15, .int .i64 (i.2.1:Int))])
  (fun i=>⟨[bx ⟨op,m,name,kids⟩,bx nu,[.int .i64 op, .int .i64 m, .str name, .slice (.tok 0) 4 (i.2.2.map bx)]],[some i.2.1]⟩) ?_ (kids,0,[]) ⟨rfl,rfl,rfl⟩)
 rintro⟨rest,k,acc⟩ ⟨h1,h2,h3⟩ IH
 dsimp only at h1 h2 h3
 subst h2
 cases rest with
 | nil=>
  have hF:=drop_nil h1
  simp only [List.append_nil]at h3
  subst h3
  repeat' (first
 | simp only [go_sem,hF,hP,gA,gB]
 | (with_reducible first | refine bq fun hc=> ?_ | refine br fun hc=> ?_ | refine bt (fun hc=> ?_) fun hc=> ?_) <;> (try simp only [hc,bs, ↓reduceIte]at h) <;> try simp only [hc]
 | (with_reducible refine aC hQ ?_;exact jR)
 | (cases h;done))
 | cons y rest=>
  obtain⟨hP,g2,hF,g4⟩:=drop_cons h1
  have dR:(acc.length+1)*57≤bl:=by simp only [bl];omega
  have hy:=hk y (List.mem_of_getElem? hP)
  have w1:IntKind.wrap .i64 ((acc.length:Int)+1)=((acc.length+1:Nat):Int):=by rw [cV] <;> omega
  repeat' (first
 | simp only [go_sem,hF,hP,gA,gB,dR,w1]
 | (with_reducible refine CU (hy _) ?_)
 | (with_reducible first | refine bq fun hc=> ?_ | refine br fun hc=> ?_ | refine bt (fun hc=> ?_) fun hc=> ?_) <;> (try simp only [hc,bs, ↓reduceIte]at h) <;> try simp only [hc]
 | (with_reducible refine aC hQ ?_;(try cases h);simp only [ay,az,bu,bw,go_sem,hF,hP,gA,gB,dR,w1];try exact kb)
 | (cases h;done))
  refine cO 3 1 (IH (rest,acc.length+1,acc++ [y]) ⟨g2,by simp,by rw [← h3];simp⟩ (Nat.lt_succ_self _))
theorem EP {x:Ex} (h:x.size<1073741824) (s:St):aB Tryz.prog jh [.agg (bx x)] s (.agg (bx x)) s:=
 (Pr x.size h x (Nat.le_refl _)).pure (by simp [D.bp,D.ok,gL]) (by simp [D.ok,gL]) s
def Sm.bare (v:Sm):Sm:= {v with aQ:= [],aM:= []}
theorem wE {v:Sm} (hv:v.labels.length+v.x.size+Ar.aR v.args<10000000) (s:St):aB Tryz.prog k8 [.agg (aU v)] s (.agg (aU v.bare)) s:=by
 refine aB.pure ?_ (by simp [D.bp,D.ok,km]) (by simp [D.ok,km]) s
 obtain⟨id,kind,labels,name,proc,x,has,args,aQ,aM⟩:=v
 dsimp only at hv
 have qB:=Ar.cM args
 have hx:=fun s=>EP (x:=x) (by omega) s
 simp only [gu]at hx
 have hL:=fun s=>uH (l:=labels) (by omega) s
 unfold Sm.bare
 unfold S0
 refine aB.go C2 rfl fun B Q hB hQ=> ?_
 have⟨hF,hP,gA,gB⟩:=bF
 repeat' (first
 | simp only [go_sem,hF,hP,gA,gB]
 | (with_reducible refine CU (hL _) ?_)
 | (with_reducible refine CU (hx _) ?_)
 | (with_reducible first | refine bq fun hc=> ?_ | refine br fun hc=> ?_ | refine bt (fun hc=> ?_) fun hc=> ?_) <;> (try simp only [hc,bs, ↓reduceIte]at h) <;> try simp only [hc]
 | (with_reducible refine aC hQ ?_;exact jR)
 | (cases h;done))
 refine bh.rY 2 10 6 rfl rfl ?_
 simp only [go_sem,hF,hP,gA,gB]
 refine cO 3 1 (bh.ind (ι:=List Ar×Nat×List Ar) (fun i=>args.drop i.2.1=i.1∧i.2.1=i.2.2.length∧i.2.2++i.1=args) (fun i=>i.1.length)
  (fun i=> [(1, .ptr 0 0),(2, .ptr 1 0),(3, .ptr 2 0),(24, .slice .shared 6 (args.map ej)),(25, .int .i64 (args.length:Int)),(26, .int .i64 (i.2.1:Int))])
  (fun i=>⟨[aU ⟨id,kind,labels,name,proc,x,has,args,aQ,aM⟩,aU Gp,[.int .i64 id, .int .i64 kind, .slice .shared 1 (labels.map encStr), .str name, .str proc, .int .i64 x.op, .int .i64 x.n, .str x.name, .slice .shared 4 (x.kids.map bx), .bool has, .slice (.tok 0) 6 (i.2.2.map ej), .slice .full 0 [], .slice .full 0 []]],[some i.2.1]⟩) ?_ (args,0,[]) ⟨rfl,rfl,rfl⟩)
 rintro⟨zg,ka,vu⟩ ⟨j1,j2,j3⟩ IHa
 dsimp only at j1 j2 j3
 subst j2
 cases zg with
 | nil=>
  have hF:=drop_nil j1
  simp only [List.append_nil]at j3
  subst j3
  repeat' (first
 | simp only [go_sem,hF,hP,gA,gB,cv,List.map_nil]
 | (with_reducible first | refine bq fun hc=> ?_ | refine br fun hc=> ?_ | refine bt (fun hc=> ?_) fun hc=> ?_) <;> (try simp only [hc,bs, ↓reduceIte]at h) <;> try simp only [hc]
 | (with_reducible refine aC hQ ?_;(try cases h);simp only [ay,az,bu,bw,go_sem,hF,hP,gA,gB,cv,List.map_nil];try exact kb)
 | (cases h;done))
 | cons c zg=>
  obtain⟨hP,g2,hF,g4⟩:=drop_cons j1
  have ha:c.x.size<1073741824:=by have:=Ar.bT (List.mem_of_getElem? hP);omega
  have AH:vu.length<4611686018427387904:=by omega
  have Em:(vu.length+1)*81≤bl:=by simp only [bl];omega
  have RM:=fun s=>EP ha s
  simp only [gu]at RM
  obtain⟨Vl,O7,ax⟩:=c
  repeat' (first
 | simp only [go_sem,hF,hP,gA,gB,Em]
 | (with_reducible refine CU (RM _) ?_)
 | (with_reducible first | refine bq fun hc=> ?_ | refine br fun hc=> ?_ | refine bt (fun hc=> ?_) fun hc=> ?_) <;> (try simp only [hc,bs, ↓reduceIte]at h) <;> try simp only [hc]
 | (with_reducible refine aC hQ ?_;(try cases h);simp only [ay,az,bu,bw,go_sem,hF,hP,gA,gB,Em];try exact kb)
 | (cases h;done))
  refine dH 3 1 ?_ ?_ (IHa (zg,vu.length+1,vu++ [⟨Vl,O7,ax⟩]) ⟨g2,by simp,by rw [← j3];simp⟩ (Nat.lt_succ_self _))
  ·(simp only [go_sem,hF,hP,gA,gB,aJ AH];try exact bH)
  ·(simp only [go_sem,hF,hP,gA,gB,aJ AH];try exact bH)
end Go.Abs

/-! Cp2 -/

namespace Go.Abs
set_option maxRecDepth 8000
open Go.Proofs
abbrev Sm.ayE (t:Sm) (l:List Sm):List Sm:=Sm.kf (ep t) l
abbrev Pg.put (p:Pg) (t:Sm):Pg:=p.fe (ep t)
def Sm.BV (v:Sm):Nat:=v.labels.length+v.x.size+Ar.aR v.args
abbrev X6 (t:Sm) (N:Nat):Prop:=∀ l:List Sm,Sm.aR l<N→∀ s:St,aB Tryz.prog nF [.slice .shared 13 (l.map aU), .agg (aU t)] s (.slice .shared 13 ((Sm.kf (ep t) l).map aU)) s
theorem VK (t:Sm) (ht:t.BV<10000000) {N:Nat} (hN:N<10000000) (ih:X6 t N) (l:List Sm) (hl:Sm.aR l<N+1) :
 aB Tryz.prog nF [.slice .shared 13 (l.map aU), .agg (aU t)] S0 (.slice .shared 13 ((Sm.kf (ep t) l).map aU)) S0:=by
 have hlen:l.length<10000001:=by have:=Sm.cM l;omega
 have hct:=fun s=>wE (v:=t) ht s
 have hbt:aU t.bare=_:=cv t.bare
 simp only [hbt,Sm.bare,List.map_nil]at hct
 generalize hR:Sm.kf (ep t) l=R
 unfold S0
 refine aB.go JC rfl fun B Q hB hQ=> ?_
 have⟨hF,hP,gA,gB⟩:=bF
 repeat' (first
 | simp only [go_sem,hF,hP,gA,gB]
 | (with_reducible first | refine bq fun hc=> ?_ | refine br fun hc=> ?_ | refine bt (fun hc=> ?_) fun hc=> ?_) <;> (try simp only [hc,bs, ↓reduceIte]at h) <;> try simp only [hc]
 | (with_reducible refine aC hQ ?_;exact jR)
 | (cases h;done))
 refine bh.l6 5 13 rfl ?_
 simp only [go_sem,hF,hP,gA,gB]
 refine cO 1 1 (bh.ind (ι:=List Sm×Nat×List Sm) (fun i=>l.drop i.2.1=i.1∧i.2.1=i.2.2.length∧i.2.2++Sm.kf (ep t) i.1=R) (fun i=>i.1.length)
  (fun i=> [(3, .ptr 0 0),(5, .slice (.tok 0) 13 (i.2.2.map aU)),(9, .slice .shared 13 (l.map aU)),(10, .int .i64 (l.length:Int)),(11, .int .i64 (i.2.1:Int))])
  (fun i=>⟨[aU t],[some i.2.1]⟩) ?_ (l,0,[]) ⟨rfl,rfl,hR⟩)
 rintro⟨rest,k,acc⟩ ⟨h1,h2,h3⟩ IH
 dsimp only at h1 h2 h3
 subst h2
 cases rest with
 | nil=>
  have hF:=drop_nil h1
  simp only [Sm.kf,List.append_nil]at h3
  subst h3
  repeat' (first
 | simp only [go_sem,hF,hP,gA,gB]
 | (with_reducible first | refine bq fun hc=> ?_ | refine br fun hc=> ?_ | refine bt (fun hc=> ?_) fun hc=> ?_) <;> (try simp only [hc,bs, ↓reduceIte]at h) <;> try simp only [hc]
 | (with_reducible refine aC hQ ?_;exact jR)
 | (cases h;done))
 | cons y rest=>
  obtain⟨hP,g2,hF,g4⟩:=drop_cons h1
  have hk:acc.length<4611686018427387904:=by omega
  have dN:y.size≤N:=by have:=Sm.bT (List.mem_of_getElem? hP);omega
  obtain⟨id,kind,labels,name,proc,x,has,args,aQ,aM⟩:=y
  simp only [Sm.size]at dN
  have dR:(acc.length+1)*209≤bl:=by simp only [bl];omega
  have Be:=fun s=>wE (v:=⟨id,kind,labels,name,proc,x,has,args,aQ,aM⟩) (by dsimp only;omega) s
  simp only [Sm.bare,cv,List.map_nil]at Be
  have c1:=ih aQ (by omega)
  have c2:=ih aM (by omega)
  simp only [Sm.kf]at h3
  obtain⟨Y,hY⟩ : ∃ Y,Sm.fe (ep t) ⟨id,kind,labels,name,proc,x,has,args,aQ,aM⟩=Y:=⟨_,rfl⟩
  rw [hY]at h3
  rw [ZD]at hY
  unfold ep at hY
  obtain⟨T,hT⟩ : ∃ T,Sm.kf (ep t) aQ=T:=⟨_,rfl⟩
  obtain⟨E,hE⟩ : ∃ E,Sm.kf (ep t) aM=E:=⟨_,rfl⟩
  unfold ep at hT hE
  simp only [hT,hE]at hY
  unfold ep at c1 c2
  rw [hT]at c1
  rw [hE]at c2
  rcases Bool.eq_false_or_eq_true (id==t.id)with b1 | b1
  ·rw [if_pos b1]at hY
   subst hY
   repeat' (first
 | simp only [go_sem,hF,hP,gA,gB,dR,b1]
 | (with_reducible refine CU (Be _) ?_)
 | (with_reducible refine CU (hct _) ?_)
 | (with_reducible refine CU (c1 _) ?_)
 | (with_reducible refine CU (c2 _) ?_)
 | (with_reducible first | refine bq fun hc=> ?_ | refine br fun hc=> ?_ | refine bt (fun hc=> ?_) fun hc=> ?_) <;> (try simp only [hc,bs, ↓reduceIte]at h) <;> try simp only [hc]
 | (with_reducible refine aC hQ ?_;(try cases h);simp only [ay,az,bu,bw,go_sem,hF,hP,gA,gB,dR,b1];try exact kb)
 | (cases h;done))
   refine dH 1 1 ?_ ?_ (IH (rest,acc.length+1,acc++ [{t with aQ:=T,aM:=E}]) ⟨g2,by simp,by rw [← h3];simp⟩ (Nat.lt_succ_self _))
   ·(simp only [go_sem,hF,hP,gA,gB,aJ hk,cv];try exact bH)
   ·(simp only [go_sem,hF,hP,gA,gB,aJ hk,cv];try exact bH)
  ·rw [if_neg (by simp [b1])]at hY
   subst hY
   repeat' (first
 | simp only [go_sem,hF,hP,gA,gB,dR,b1]
 | (with_reducible refine CU (Be _) ?_)
 | (with_reducible refine CU (hct _) ?_)
 | (with_reducible refine CU (c1 _) ?_)
 | (with_reducible refine CU (c2 _) ?_)
 | (with_reducible first | refine bq fun hc=> ?_ | refine br fun hc=> ?_ | refine bt (fun hc=> ?_) fun hc=> ?_) <;> (try simp only [hc,bs, ↓reduceIte]at h) <;> try simp only [hc]
 | (with_reducible refine aC hQ ?_;(try cases h);simp only [ay,az,bu,bw,go_sem,hF,hP,gA,gB,dR,b1];try exact kb)
 | (cases h;done))
   refine dH 1 1 ?_ ?_ (IH (rest,acc.length+1,acc++ [⟨id,kind,labels,name,proc,x,has,args,T,E⟩]) ⟨g2,by simp,by rw [← h3];simp⟩ (Nat.lt_succ_self _))
   ·(simp only [go_sem,hF,hP,gA,gB,aJ hk];try exact bH)
   ·(simp only [go_sem,hF,hP,gA,gB,aJ hk];try exact bH)
theorem ZE (t:Sm) (ht:t.BV<10000000) : ∀ N,N<10000000→X6 t N:=by
 intro N
 induction N with
 | zero=>intro _ l hl;exact absurd hl (Nat.not_lt_zero _)
 | succ N ih=>
  intro hN l hl s
  exact(VK t ht (by omega) (ih (by omega)) l hl).pure (by simp [D.bp,D.ok,Tag.ok,iH,km]) (by simp [D.bp,D.ok,Tag.ok,iH]) s
theorem Sr {t:Sm} (ht:t.BV<10000000) {l:List Sm} (h:Sm.aR l<9000000) (s:St):aB Tryz.prog nF [.slice .shared 13 (l.map aU), .agg (aU t)] s (.slice .shared 13 ((Sm.kf (ep t) l).map aU)) s:=
 ZE t ht 9999999 (by omega) l (by omega) s
end Go.Abs

/-! SelA -/

namespace Go.Abs
def z6 (os ts:List Nat) (tm:Tm):Tm→Prop
 | []=>True
 | (k,d)::r=>tm.get k=d.cm os ts∧d.ok os.length ts.length=true∧z6 os ts tm r
theorem z6.get {os ts:List Nat} {tm:Tm} : ∀ {bB:Tm},z6 os ts tm bB→∀ k,bB.get k = .junk∨(tm.get k=(bB.get k).cm os ts∧(bB.get k).ok os.length ts.length=true)
 | [],_,k=> .inl rfl
 | (q,d)::r,⟨h1,h2,h3⟩,k=>by
  simp only [Tm.get]
  split
  ·rename_i e;subst e;exact .inr ⟨h1,h2⟩
  ·exact h3.get k
section
variable {P:Program} {B:fz} {nt:Nat}
theorem Holds.yp {tm:Tm} {s:St} {act:Act} {w:World} (os:List Nat) (dW:List (List D)) (bB:Tm) (tT:os.Nodup) (kO : ∀ o∈os,o<s.aw.length) (hn:B.s.aw.length≤os.length)
 (hold : ∀ i,i<B.s.aw.length→os[i]? = some i) (dI : ∀ (i o:Nat),os[i]? = some o→B.s.aw.length≤i→B.s.aw.length≤o) (ho:dW.length=os.length)
 (oJ : ∀ (i o:Nat) (ds:List D),os[i]? = some o→dW[i]? = some ds→s.aw[o]? = some (D.dY os (List.range s.aA.length) ds)∧D.bp os.length s.aA.length ds=true)
 (Ss:z6 os (List.range s.aA.length) tm bB) (h:Holds B nt tm s act w):Holds B nt bB ⟨dW,s.aA⟩ act w:=by
 obtain⟨M,e,r,hr,h1,h2⟩:=h
 have xE:(List.range s.aA.length).length=s.aA.length:=List.length_range
 have rg : ∀ (i t:Nat),(List.range s.aA.length)[i]? = some t→i=t:=fun i t h=>by
  rw [List.getElem?_eq_some_iff]at h
  obtain⟨h3,h4⟩:=h
  simpa using h4
 have r0:Rel (fL M os (List.range s.aA.length)) ⟨dW,s.aA⟩ w:=r.sub tT List.nodup_range kO ho (fun i o ds e1 e2=>by rw [xE];exact oJ i o ds e1 e2) xE.symm (fun i t h=>by rw [rg i t h])
 have loc : ∀ (i:Nat) o,os[i]? = some o→(fL M os (List.range s.aA.length)).loc i=M.loc o:=fun i o h=>by simp only [fL,rV h]
 have be : ∀ t,t<s.aA.length→(fL M os (List.range s.aA.length)).be t=M.be t:=fun t h=>by
  have:(List.range s.aA.length)[t]? = some t:=List.getElem?_range h
  simp only [fL,rV this]
 refine⟨fL M os (List.range s.aA.length),⟨⟨e.le.G,by rw [ho];exact hn,fun o h=> ?_,e.le.t,fun t n' h e'=> ?_⟩,e.kept,fun o h3 h4=> ?_,fun t b c z hl hb=> ?_,e.qf,e.size,e.os,e.tape,e.output⟩,r0,fun k=> ?_,h1,h2⟩
 ·rw [loc o o (hold o h)];exact e.le.loc o h
 ·obtain⟨n,g1,g2,g3⟩:=e.le.tk t n' h e'
  exact⟨n,g1,g2,fun eq=>by rw [be t (Nat.lt_of_lt_of_le h e.le.t)];exact g3 eq⟩
 ·simp only at h4
  rw [ho]at h4
  obtain⟨q,hq⟩ : ∃ q,os[o]? = some q:=⟨_,List.getElem?_eq_getElem h4⟩
  have mE:(fL M os (List.range s.aA.length)).mu o=M.mu q:=congrArg Prod.fst (loc o q hq)
  rw [mE]at h3 ⊢
  refine e.qe q ?_ (kO q (List.mem_of_getElem? hq))
  by_cases h5:B.s.aw.length≤o
  ·exact .inl (dI o q hq h5)
  ·have:=hold o (by omega)
   rw [hq]at this
   cases this
   rcases h3 with h3 | h3
   ·exact(h5 h3).elim
   ·exact .inr h3
 ·obtain⟨n,oe⟩:=hl
  have hF:=(List.getElem?_eq_some_iff.1 oe).1
  rw [be t hF]at hb
  exact e.pA t b c z ⟨n,oe⟩ hb
 ·rcases Ss.get k with h3 | ⟨h3,h4⟩
  ·rw [h3];exact .junk _
  ·exact RD.BH (M:=M) (M0:=fL M os (List.range s.aA.length)) (s:=s) (s0:=⟨dW,s.aA⟩) rfl loc ho (fun i t h=>by
    have:=rg i t h;subst this;exact be i (by have:=(List.getElem?_eq_some_iff.1 h).1;rwa [xE]at this)) (fun i t h=>by rw [rg i t h]) xE.symm (h3 ▸ hr k) _ rfl h4
theorem bh.yp {a:AC} {Q:Exit→Tm→St→Prop} {tm:Tm} {s:St} (os:List Nat) (dW:List (List D)) (bB:Tm) (tT:os.Nodup) (kO : ∀ o∈os,o<s.aw.length) (hn:B.s.aw.length≤os.length)
 (hold : ∀ i,i<B.s.aw.length→os[i]? = some i) (dI : ∀ (i o:Nat),os[i]? = some o→B.s.aw.length≤i→B.s.aw.length≤o) (ho:dW.length=os.length)
 (oJ : ∀ (i o:Nat) (ds:List D),os[i]? = some o→dW[i]? = some ds→s.aw[o]? = some (D.dY os (List.range s.aA.length) ds)∧D.bp os.length s.aA.length ds=true)
 (Ss:z6 os (List.range s.aA.length) tm bB) (h:bh P B nt a Q bB ⟨dW,s.aA⟩):bh P B nt a Q tm s:=
 fun c hc act w hh=>h c hc act w (hh.yp os dW bB tT kO hn hold dI ho oJ Ss)
mutual
def D.fM (o g:Nat) (rows:List (List D)):D→D
 | .er z o' g' len=>if o'=o∧g'=g∧len=rows.length then .slice .shared z rows else .er z o' g' len
 | .dG row off=> .dG (D.kM o g rows row) off
 | .slice t z rs=> .slice t z (D.rE o g rows rs)
 | .agg cs=> .agg (D.kM o g rows cs)
 | .tuple ds=> .tuple (D.kM o g rows ds)
 | .gj f cs=> .gj f (D.kM o g rows cs)
 | .ptr o off=> .ptr o off
 | .junk=> .junk
 | .int k x=> .int k x
 | .bool b=> .bool b
 | .str l=> .str l
 | .eR=> .eR
 | .val v=> .val v
 | .fm T o=> .fm T o
 | .fY o=> .fY o
 | .fu o g off=> .fu o g off
 | .fy z=> .fy z
def D.kM (o g:Nat) (rows:List (List D)):List D→List D
 | []=> []
 | d::r=>D.fM o g rows d::D.kM o g rows r
def D.rE (o g:Nat) (rows:List (List D)):List (List D)→List (List D)
 | []=> []
 | d::r=>D.kM o g rows d::D.rE o g rows r
end
theorem n5 (o g:Nat) (rows:List (List D)) : ∀ l,D.kM o g rows l=l.map (D.fM o g rows)
 | []=>by simp [D.kM]
 | d::r=>by simp [D.kM,n5 o g rows r]
theorem Mg (o g:Nat) (rows:List (List D)) : ∀ l,D.rE o g rows l=l.map (D.kM o g rows)
 | []=>by simp [D.rE]
 | d::r=>by simp [D.rE,Mg o g rows r]
theorem RD.fM {M:Map} {s:St} {o g:Nat} {rows:List (List D)} {b cap z:Nat} {A:Nat→Option (Nat×Nat)} (hm:M.ob o = .arr z A) (ha:A g=some (b,cap))
 (hs : ∀ row∈rows,row.length=z) (h1 : ∀ (i:Nat) (row:List D) (j:Nat) (d:D),rows[i]? = some row→row[j]? = some d→∃ u,M.G b (0+(i*z+j))=some u)
 (h2 : ∀ (i:Nat) (row:List D) (j:Nat) (d:D) (u:Value),rows[i]? = some row→row[j]? = some d→M.G b (0+(i*z+j))=some u→RD M s d u)
 {d:D} {v:Value} (h:RD M s d v):RD M s (d.fM o g rows) v:=by
 induction h with
 | er z' o' g' len b' qj A' ho zG Sv hl=>
  simp only [D.fM]
  split
  ·rename_i hc
   obtain⟨rfl,rfl,rfl⟩:=hc
   rw [hm]at zG
   cases zG
   rw [ha]at Sv
   cases Sv
   exact .slice .shared z rows b 0 cap hl hs h1 h2 trivial
  ·exact .er z' o' g' len b' qj A' ho zG Sv hl
 | fu z' o' g' off b' qj A' ho zG Sv=>simp only [D.fM];exact .fu z' o' g' off b' qj A' ho zG Sv
 | fy z a=>simp only [D.fM];exact .fy z a
 | junk v=>simp only [D.fM];exact .junk v
 | int k x=>simp only [D.fM];exact .int k x
 | bool b=>simp only [D.fM];exact .bool b
 | str l=>simp only [D.fM];exact .str l
 | eR=>simp only [D.fM];exact .eR
 | val v hv=>simp only [D.fM];exact .val v hv
 | fm T o v h ht hv=>simp only [D.fM];exact .fm T o v h ht hv
 | fY o h hm=>simp only [D.fM];exact .fY o h hm
 | ptr o off h hm=>simp only [D.fM];exact .ptr o off h hm
 | gj f ds vs hl _ ih=>
  simp only [D.fM,n5]
  refine .gj f _ vs (by simpa using hl) (fun i d v e1 e2=> ?_)
  simp only [List.getElem?_map,Option.map_eq_some_iff]at e1
  obtain⟨d',e1,rfl⟩:=e1
  exact ih i d' v e1 e2
 | dG row off b k h1 h2 ih=>
  simp only [D.fM,n5]
  refine .dG _ off b k (fun i d e=> ?_) (fun i d u e eu=> ?_)
  ·simp only [List.getElem?_map,Option.map_eq_some_iff]at e
   obtain⟨d',e,rfl⟩:=e
   exact h1 i d' e
  ·simp only [List.getElem?_map,Option.map_eq_some_iff]at e
   obtain⟨d',e,rfl⟩:=e
   exact ih i d' u e eu
 | iZ t z cap hc ht=>simp only [D.fM,D.rE];exact .iZ _ z cap hc ht
 | lV z a cap=>simp only [D.fM,D.rE];exact .lV z a cap
 | slice t z rs b k cap hl hs h1 h2 ht ih=>
  simp only [D.fM,Mg]
  have hlen:(rs.map (D.kM o g rows)).length=rs.length:=by simp
  have key:=RD.slice (M:=M) (s:=s) t z (rs.map (D.kM o g rows)) b k cap (by rw [hlen];exact hl) (fun row hr=>by
   obtain⟨ja,h',rfl⟩:=List.mem_map.1 hr
   rw [n5,List.length_map];exact hs ja h')
   (fun i row j d e1 e2=>by
    simp only [List.getElem?_map,Option.map_eq_some_iff]at e1
    obtain⟨ja,e1,rfl⟩:=e1
    rw [n5]at e2
    simp only [List.getElem?_map,Option.map_eq_some_iff]at e2
    obtain⟨d',e2,rfl⟩:=e2
    exact h1 i ja j d' e1 e2)
   (fun i row j d u e1 e2 eu=>by
    simp only [List.getElem?_map,Option.map_eq_some_iff]at e1
    obtain⟨ja,e1,rfl⟩:=e1
    rw [n5]at e2
    simp only [List.getElem?_map,Option.map_eq_some_iff]at e2
    obtain⟨d',e2,rfl⟩:=e2
    exact ih i ja j d' u e1 e2 eu)
   (by rw [hlen];exact ht)
  rw [hlen]at key
  exact key
 | agg cells vs hl h1 _ ih=>
  simp only [D.fM,n5]
  refine .agg _ vs (by simpa using hl) h1 (fun i d v e1 e2=> ?_)
  simp only [List.getElem?_map,Option.map_eq_some_iff]at e1
  obtain⟨d',e1,rfl⟩:=e1
  exact ih i d' v e1 e2
 | tuple ds vs hl _ ih=>
  simp only [D.fM,n5]
  refine .tuple _ vs (by simpa using hl) (fun i d v e1 e2=> ?_)
  simp only [List.getElem?_map,Option.map_eq_some_iff]at e1
  obtain⟨d',e1,rfl⟩:=e1
  exact ih i d' v e1 e2
def z7 (o g:Nat) (rows:List (List D)) (n m:Nat) (ds:List D):List D:=D.gF n m (D.kM o g rows ds)
def ER (o g:Nat) (rows:List (List D)) (m:Nat) (tm:Tm):Tm→Prop
 | []=>True
 | (k,d)::r=>Wk (((tm.get k).fM o g rows).fg o m) d∧ER o g rows m tm r
theorem ER.get {o g m:Nat} {rows:List (List D)} {tm:Tm} : ∀ {bB:Tm},ER o g rows m tm bB→∀ t,Wk (((tm.get t).fM o g rows).fg o m) (bB.get t)
 | [],_,t=>Wk.junk _
 | (k,d)::r,h,t=>by
  simp only [Tm.get]
  split
  ·rename_i hk;subst hk;exact h.1
  ·exact ER.get h.2 t
theorem Holds.Pu {tm:Tm} {s:St} {act:Act} {w:World} (o g z:Nat) (rows:List (List D)) (bB:Tm) (dW:List (List D)) (hn:B.s.aw.length≤o) (eo:s.aw[o]? = some (.int .i64 (g:Int)::rows.flatten)) (hz : ∃ k l,tm.get k = .er z o g l∨∃ (q:Nat) (ds:List D),s.aw[q]? = some ds∧ds[k]? = some (.er z o g l))
 (hs : ∀ row∈rows,row.length=z) (ht:ER o g rows s.aA.length tm bB) (oJ:hO ((s.aw.take o).map (z7 o g rows o s.aA.length)) dW)
 (h:Holds B nt tm s act w):Holds B nt bB ⟨dW,s.aA⟩ act w:=by
 obtain⟨M,e,r,hr,h1,h2⟩:=h
 have za:o<s.aw.length:=(List.getElem?_eq_some_iff.1 eo).1
 obtain⟨A,hm⟩ : ∃ A,M.ob o = .arr z A:=by
  obtain⟨k,l,hz | ⟨q,ds,hq,hz⟩⟩:=hz
  ·have:=hr k
   rw [hz]at this
   obtain⟨_,_,A,_,_,hm,_⟩:=this.uG
   exact⟨A,hm⟩
  ·obtain⟨vs,T,_,dN,_,jd⟩:=r.obj q ds hq
   have hF:=(List.getElem?_eq_some_iff.1 hz).1
   obtain⟨_,_,A,_,_,hm,_⟩:=(jd k _ _ hz (Array.getElem?_eq_getElem (by omega))).uG
   exact⟨A,hm⟩
 have ha:nz s o g=some rows.flatten:=by unfold nz;rw [eo];simp
 obtain⟨us,T,cap,hh,xG,Cf,dN,hle,fW,jd⟩:=r.IA hm ha
 obtain⟨iU,_⟩:=uS hs
 have hGo : ∀ q,M.G (M.mu o) q=none:=r.jr o za
 have sJ:B.w.heap.size≤M.mu o:=e.qe o (.inl hn) za
 let M':Map:= {M with G:=fun b q=>if b=M.mu o then us[q]? else M.G b q}
 have mF : ∀ b,b≠M.mu o→∀ q,M'.G b q=M.G b q:=fun b hb q=>if_neg hb
 have le:Le M s M' s:=⟨fun b q v hq=>by
  by_cases hb:b=M.mu o
  ·subst hb;rw [hGo]at hq;cases hq
  ·rw [mF b hb];exact hq,Nat.le_refl _,fun _ _=> .refl _,Nat.le_refl _,fun t n' _ e=>⟨n',e,Nat.le_refl _,fun _=>rfl⟩⟩
 -- the rows are among the cells
 have qO : ∀ (i:Nat) (row:List D) (j:Nat) (d:D),rows[i]? = some row→row[j]? = some d→rows.flatten[i*z+j]? = some d:=by
  have gen : ∀ (rows:List (List D)),(∀ row∈rows,row.length=z)→∀ (i:Nat) (row:List D) (j:Nat) (d:D),rows[i]? = some row→row[j]? = some d→rows.flatten[i*z+j]? = some d:=by
   intro rows
   induction rows with
   | nil=>intro _ i row j d e1;simp at e1
   | cons a rows ih=>
    intro hs i row j d e1 e2
    have qB:=hs a (List.mem_cons_self ..)
    rw [List.flatten_cons]
    cases i with
    | zero=>
     simp at e1;subst e1
     rw [Nat.zero_mul,Nat.zero_add,List.getElem?_append_left (List.getElem?_eq_some_iff.1 e2).1];exact e2
    | succ i=>
     rw [List.getElem?_append_right (by rw [Nat.add_mul];omega),qB,show(i+1)*z+j - z=i*z+j by rw [Nat.add_mul];omega]
     exact ih (fun q hq=>hs q (List.mem_cons_of_mem _ hq)) i row j d (by simpa using e1) e2
  exact gen rows hs
 have g1 : ∀ (i:Nat) (row:List D) (j:Nat) (d:D),rows[i]? = some row→row[j]? = some d→∃ u,M'.G (M.mu o) (0+(i*z+j))=some u:=fun i row j d e1 e2=>by
  have hF:=(List.getElem?_eq_some_iff.1 (qO i row j d e1 e2)).1
  refine⟨us[i*z+j]'(by omega), ?_⟩
  show(if M.mu o=M.mu o then us[0+(i*z+j)]? else _)=_
  rw [if_pos rfl,Nat.zero_add]
  exact Array.getElem?_eq_getElem _
 have g2 : ∀ (i:Nat) (row:List D) (j:Nat) (d:D) (u:Value),rows[i]? = some row→row[j]? = some d→M'.G (M.mu o) (0+(i*z+j))=some u→RD M' s d u:=fun i row j d u e1 e2 eu=>by
  have Ei:(if M.mu o=M.mu o then us[0+(i*z+j)]? else M.G (M.mu o) (0+(i*z+j)))=some u:=eu
  rw [if_pos rfl,Nat.zero_add]at Ei
  exact(jd _ d u (qO i row j d e1 e2) Ei).mono le
 have conv : ∀ {d:D} {v:Value},RD M s d v→RD M' (s.cut o s.aA.length) ((d.fM o g rows).fg o s.aA.length) v:=fun hd=>((hd.mono le).fM (M:=M') hm xG hs g1 g2).fg o s.aA.length
 have rc:=r.cut o s.aA.length
 have ec:=e.cut hn e.le.t
 have hF : ∀ q,q<(s.cut o s.aA.length).aw.length→q<s.aw.length∧q≠o:=fun q h=>by rw [kj]at h;omega
 have LX:(s.cut o s.aA.length).aA=s.aA:=by simp [St.cut]
 have hlen:dW.length=min o s.aw.length:=by rw [← oJ.len];simp
 have Rv:Le M (s.cut o s.aA.length) M' (s.cut o s.aA.length):=⟨le.G,Nat.le_refl _,fun _ _=> .refl _,Nat.le_refl _,fun t n' _ e=>⟨n',e,Nat.le_refl _,fun _=>rfl⟩⟩
 have les:Le M' (s.cut o s.aA.length) M' ⟨dW,s.aA⟩:=⟨fun _ _ _ h=>h,by rw [kj];simp only;omega,fun _ _=> .refl _,by simp [St.cut],fun t n' _ e=>⟨n',by rw [LX];exact e,Nat.le_refl _,fun _=>rfl⟩⟩
 refine⟨M',⟨(ec.le.trans Rv).trans les,ec.kept,fun q h3 h4=> ?_,fun t b c z hl hb=> ?_,fun b q eH=> ?_,ec.size,ec.os,ec.tape,ec.output⟩,⟨fun b q v hq=> ?_,fun q ds hq=> ?_,fun q hq qh=> ?_,fun q q' hq lA=> ?_,fun t n' Gj=> ?_,fun t b c z q hl hb hq=> ?_,fun t t' b c z c' z' hl mH=> ?_⟩,fun k=> ?_,h1,h2⟩
 ·exact ec.qe q h3 (by rw [kj];simp only [hlen]at h4;exact h4)
 ·exact ec.pA t b c z (by obtain⟨n,hn⟩:=hl;exact⟨n,by rw [LX];exact hn⟩) hb
 ·by_cases hb:b=M.mu o
  ·subst hb;exact .inl sJ
  ·rw [mF b hb]at eH;exact ec.qf b q eH
 ·have lA:(if b=M.mu o then us[q]? else M.G b q)=some v:=hq
  by_cases hb:b=M.mu o
  ·rw [if_pos hb]at lA
   rw [hb,iS hh]
   exact⟨lA,fW v (Array.mem_of_getElem? lA)⟩
  ·rw [if_neg hb]at lA
   exact r.comm b q v lA
 ·have Ch:=(List.getElem?_eq_some_iff.1 hq).1
  have sV:q<o:=by simp only [hlen]at Ch;omega
  have hqs:q<s.aw.length:=by omega
  obtain⟨IV,adS⟩ : ∃ IV,s.aw[q]? = some IV:=⟨_,List.getElem?_eq_getElem hqs⟩
  obtain⟨vs,T',h3,h4,h5,h6⟩:=r.obj q IV adS
  obtain⟨r1,vq,hw⟩:=oJ.get hq
  have aqG:r1=z7 o g rows o s.aA.length IV:=by
   rw [List.getElem?_map,List.getElem?_take_of_lt sV,adS]at vq
   simpa using vq.symm
  subst aqG
  refine⟨vs,T',h3,by rw [← hw.len];simp [z7,lf,n5,h4],h5,fun i d v e1 e2=> ?_⟩
  obtain⟨d1,JW,hwd⟩:=hw.get e1
  simp only [z7,lf,n5,List.getElem?_map,Option.map_eq_some_iff]at JW
  obtain⟨d2,⟨d3,hd3,rfl⟩,rfl⟩:=JW
  exact(hwd _ _ _ (conv (h6 i d3 v hd3 e2))).mono les
 ·have Ch:q<o:=by simp only [hlen]at hq;omega
  show M'.G (M.mu q) qh=none
  rw [mF _ (fun e=>by have:=r.inj q o (by omega) za e;omega)]
  exact r.jr q (by omega) qh
 ·simp only [hlen]at hq lA
  exact r.inj q q' (by omega) (by omega)
 ·rcases r.tok t n' Gj with h3 | ⟨b,cap,z,fD,T',h3,h4,h5,h6,h7⟩
  ·exact .inl h3
  ·refine .inr ⟨b,cap,z,fD,T',h3,h4,h5,h6,fun qh yJ=> ?_,h7.2⟩
   rw [mF _ (fun e=>r.eY t b cap z o ⟨n',Gj⟩ h3 za e.symm)]
   exact h7.1 qh yJ
 ·simp only [hlen]at hq
  exact r.eY t b c z q hl hb (by omega)
 ·exact r.fZ t t' b c z c' z' hl mH
 ·exact(ht.get k _ _ _ (conv (hr k))).mono les
theorem bh.Pu {a:AC} {Q:Exit→Tm→St→Prop} {tm:Tm} {s:St} (o g z:Nat) (rows:List (List D)) (bB:Tm) (dW:List (List D)) (hn:B.s.aw.length≤o) (eo:s.aw[o]? = some (.int .i64 (g:Int)::rows.flatten)) (hz : ∃ k l,tm.get k = .er z o g l∨∃ (q:Nat) (ds:List D),s.aw[q]? = some ds∧ds[k]? = some (.er z o g l))
 (hs : ∀ row∈rows,row.length=z) (ht:ER o g rows s.aA.length tm bB) (oJ:hO ((s.aw.take o).map (z7 o g rows o s.aA.length)) dW)
 (h:bh P B nt a Q bB ⟨dW,s.aA⟩):bh P B nt a Q tm s:=fun c hc act w hh=>h c hc act w (hh.Pu o g z rows bB dW hn eo hz hs ht oJ)
end
end Go.Abs

/-! WpA -/

namespace Go.Abs
section
variable (s:St) (o g off len k z size bytes:Nat) (kk:IntKind)
theorem agR:nz s o g=match s.aw[o]? with | some (.int .i64 n::cells)=>if n=(g:Int)then some cells else none | _=>none:=nd rfl
theorem adT (agg:Bool):yy (.fu o g off) agg size s=match nz s o g with | some cells=>(match part cells off agg size with | some d=>some (d,s) | none=>none) | none=>none:=nd rfl
theorem ZF (r:List D):Ao (.fu o g off) (some r) size s=match nz s o g with
 | some cells=>if r.length=size∧off+size≤cells.length then some (.tuple [],⟨s.aw.set o (.int .i64 g::fU cells off r),s.aA⟩)else none
 | none=>none:=nd rfl
theorem agS:Mm (.fu o g off)=some (.fu o g off):=nd rfl
theorem ZG:Dp (.fu o g k) off=some (.fu o g (k+off)):=nd rfl
theorem ZH:xB (.er z o g len) (.int kk (k:Int)) size=if k<len then(if z=size then some (.fu o g (k*z))else none)else none:=by
 simp only [xB]
 by_cases h1:k<len <;> by_cases h2:z=size <;> simp [h1,h2]
theorem agT:Fa (.er z o g len)=some (.int .i64 len):=nd rfl
theorem adU:Fa (.fy z)=some (.int .i64 0):=nd rfl
theorem ZI {s:St} {o g len z bytes:Nat} {t:Tag} {cells r:List D} (hs:s.aw[o]? = some (.int .i64 (g:Int)::cells)) (hl:cells.length=len*z) (hm:(len+1)*(bytes+1)≤bl) :
 Ap z bytes (.er z o g len) (.slice t z [r]) s=some (.er z o (g+1) (len+1),⟨s.aw.set o (.int .i64 ((g+1:Nat):Int)::(cells++r)),s.aA⟩):=by
 have ha:nz s o g=some cells:=by unfold nz;rw [hs];simp
 simp only [Ap,ha,List.length_singleton,hm,hl,or_true,and_self,if_true,Nat.le_refl,List.flatten_cons,List.flatten_nil,List.append_nil]
 rw [List.take_of_length_le (by omega)]
theorem VL {z bytes:Nat} (t:Tag) (r:List D) (s:St) (hm:bytes+1≤bl):Ap z bytes (.fy z) (.slice t z [r]) s=some (.er z s.aw.length 0 1,⟨s.aw++ [.int .i64 ((0:Nat):Int)::r],s.aA⟩):=by
 simp [Ap,hm]
theorem agU (n m:Nat):D.fg n m (.er z o g len)=if o<n then .er z o g len else .junk:=nd (by simp only [D.fg])
theorem agV (n m:Nat):D.fg n m (.fu o g off)=if o<n then .fu o g off else .junk:=nd (by simp only [D.fg])
theorem agW (n m:Nat):D.fg n m (.fy z) = .fy z:=nd (by simp only [D.fg])
theorem adV:(D.er z o g len).row=some [.er z o g len]:=nd rfl
theorem adW:(D.fu o g off).row=some [.fu o g off]:=nd rfl
theorem adX:(D.fy z).row=some [.fy z]:=nd rfl
end
attribute [go_sem] agR adT ZF agS ZG ZH agT adU agU agV agW adV adW adX
theorem Wk.fy (z z':Nat):Wk (.slice .full z []) (.fy z'):=fun M s v h=>by
 cases h with
 | iZ _ _ cap hc ht=>subst hc;exact .fy z' none
 | slice _ _ _ b k cap hl hs h1 h2 ht=>
  have:cap=0:=ht
  subst this
  exact .fy z' _
instance (z z':Nat):Ok (Wk (.slice .full z []) (.fy z')):=⟨Wk.fy z z'⟩
instance {a a' b b':List D} [Ok (jP a a')] [Ok (jP b b')] : Ok (jP (a++b) (a'++b')):=⟨jP.append Ok.out Ok.out⟩
theorem agX (n m:Nat) (a b:List D):D.gF n m (a++b)=D.gF n m a++D.gF n m b:=nd (by simp only [lf,List.map_append])
attribute [go_sem] agX
theorem vA {α:Type} (f:α→List D) (n:Nat) (h : ∀ a,(f a).length=n) : ∀ l:List α,((l.map f).flatten).length=l.length*n
 | []=>by simp
 | a::l=>by simp [h a,vA f n h l,Nat.add_mul,Nat.add_comm]
theorem ES {α:Type} (f:α→List D) (n:Nat) (h : ∀ a,(f a).length=n) (a b:List α) (x y:α) (k:Nat) (r:List D) (hy:f y=fU (f x) k r) (hk:k+r.length≤n) :
 fU (((a++x::b).map f).flatten) (a.length*n+k) r=((a++y::b).map f).flatten:=by
 have qB:=vA f n h a
 have hx:=h x
 unfold fU
 simp only [List.map_append,List.map_cons,List.flatten_append,List.flatten_cons,hy]
 unfold fU
 have e1:((a.map f).flatten++(f x++(b.map f).flatten)).take (a.length*n+k)=(a.map f).flatten++(f x).take k:=by
  rw [List.take_append,qB,List.take_of_length_le (by omega),show a.length*n+k - a.length*n=k by omega,List.take_append_of_le_length (by omega)]
 have e2:((a.map f).flatten++(f x++(b.map f).flatten)).drop (a.length*n+k+r.length)=(f x).drop (k+r.length)++(b.map f).flatten:=by
  rw [List.drop_append,qB,List.drop_eq_nil_of_le (by omega),show a.length*n+k+r.length - a.length*n=k+r.length by omega,List.drop_append_of_le_length (by omega)]
  simp
 rw [e1,e2]
 simp only [List.append_assoc]
def xv (os:List Nat) (m:Nat) (aw:List (List D)):List Nat→List (List D)→Prop
 | [],[]=>True
 | o::l,ds::r=>aw[o]? = some (D.dY os (List.range m) ds)∧D.bp os.length m ds=true∧xv os m aw l r
 | _,_=>False
theorem xv.get {os:List Nat} {m:Nat} {aw:List (List D)} : ∀ {l:List Nat} {r:List (List D)},xv os m aw l r→r.length=l.length∧∀ (i o:Nat) (ds:List D),l[i]? = some o→r[i]? = some ds→aw[o]? = some (D.dY os (List.range m) ds)∧D.bp os.length m ds=true
 | [],[],_=>⟨rfl,fun i o ds h=>by simp at h⟩
 | o::l,ds::r,⟨h1,h2,h3⟩=>by
  obtain⟨g1,g2⟩:=h3.get
  refine⟨by simp [g1],fun i o' nq e1 e2=> ?_⟩
  cases i with
  | zero=>simp at e1 e2;subst e1 e2;exact⟨h1,h2⟩
  | succ i=>exact g2 i o' nq (by simpa using e1) (by simpa using e2)
 | [],_::_,h=>h.elim
 | _::_,[],h=>h.elim
section
variable {P:Program} {B:fz} {nt:Nat} {a:AC} {Q:Exit→Tm→St→Prop} {tm:Tm} {s:St}
theorem bh.VM (hB:B.s = ⟨[],[]⟩) (os:List Nat) (dW:List (List D)) (bB:Tm) (tT:os.Nodup) (kO : ∀ o∈os,o<s.aw.length) (oJ:xv os s.aA.length s.aw os dW) (Ss:z6 os (List.range s.aA.length) tm bB)
 (h:bh P B nt a Q bB ⟨dW,s.aA⟩):bh P B nt a Q tm s:=
 bh.yp os dW bB tT kO (by rw [hB];exact Nat.zero_le _) (fun i h=>by rw [hB]at h;exact absurd h (Nat.not_lt_zero _)) (fun i o _ _=>by rw [hB];exact Nat.zero_le _) oJ.get.1 oJ.get.2 Ss h
end
section
variable (os ts:List Nat) (n m:Nat)
theorem agY (o off:Nat):D.cm os ts (.ptr o off)=match os[o]? with | some o'=> .ptr o' off | none=> .junk:=nd (by simp only [D.cm];rfl)
theorem agZ (z o g len:Nat):D.cm os ts (.er z o g len)=match os[o]? with | some o'=> .er z o' g len | none=> .junk:=nd (by simp only [D.cm];rfl)
theorem ZJ (g:Tag) (z:Nat) (rows:List (List D)):D.cm os ts (.slice g z rows) = .slice (g.cm ts) z (D.oI os ts rows):=nd (by simp only [D.cm])
theorem ag0 (l:List D):D.cm os ts (.agg l) = .agg (D.dY os ts l):=nd (by simp only [D.cm])
theorem adY:D.cm os ts .junk = .junk:=nd (by simp only [D.cm])
theorem ag1 (k:IntKind) (x:Int):D.cm os ts (.int k x) = .int k x:=nd (by simp only [D.cm])
theorem adZ (b:Bool):D.cm os ts (.bool b) = .bool b:=nd (by simp only [D.cm])
theorem ag2 (l:List UInt8):D.cm os ts (.str l) = .str l:=nd (by simp only [D.cm])
theorem ad0:D.cm os ts .eR = .eR:=nd (by simp only [D.cm])
theorem ad1 (z:Nat):D.cm os ts (.fy z) = .fy z:=nd (by simp only [D.cm])
theorem ZK:D.dY os ts [] = []:=nd (by simp only [D.dY])
theorem ZL (d:D) (l:List D):D.dY os ts (d::l)=D.cm os ts d::D.dY os ts l:=nd (by simp only [D.dY])
theorem VN:Tag.cm ts .shared = .shared:=nd rfl
theorem ad2:Tag.cm ts .full = .full:=nd rfl
theorem ZM (o off:Nat):D.ok n m (.ptr o off)=decide (o<n):=nd (by simp only [D.ok])
theorem ZN (z o g len:Nat):D.ok n m (.er z o g len)=decide (o<n):=nd (by simp only [D.ok])
theorem Sw (g:Tag) (z:Nat) (rows:List (List D)):D.ok n m (.slice g z rows)=(g.ok m && D.gZ n m rows):=nd (by simp only [D.ok])
theorem ZO (l:List D):D.ok n m (.agg l)=D.bp n m l:=nd (by simp only [D.ok])
theorem VO:D.ok n m .junk=true:=nd (by simp only [D.ok])
theorem ZP (k:IntKind) (x:Int):D.ok n m (.int k x)=true:=nd (by simp only [D.ok])
theorem VP (b:Bool):D.ok n m (.bool b)=true:=nd (by simp only [D.ok])
theorem ZQ (l:List UInt8):D.ok n m (.str l)=true:=nd (by simp only [D.ok])
theorem VQ:D.ok n m .eR=true:=nd (by simp only [D.ok])
theorem VR (z:Nat):D.ok n m (.fy z)=true:=nd (by simp only [D.ok])
theorem ad3:D.bp n m [] = true:=nd (by simp only [D.bp])
theorem ad4 (d:D) (l:List D):D.bp n m (d::l)=(D.ok n m d && D.bp n m l):=nd (by simp only [D.bp])
theorem Pv:Tag.ok m .shared=true:=nd rfl
theorem VS:Tag.ok m .full=true:=nd rfl
theorem ZR (os:List Nat) (m:Nat) (aw:List (List D)):xv os m aw [] [] = True:=nd rfl
theorem ZS (os:List Nat) (m:Nat) (aw:List (List D)) (o:Nat) (l:List Nat) (ds:List D) (r:List (List D)):xv os m aw (o::l) (ds::r)=(aw[o]? = some (D.dY os (List.range m) ds)∧D.bp os.length m ds=true∧xv os m aw l r):=nd rfl
theorem ad5 (tm:Tm):z6 os ts tm [] = True:=nd rfl
theorem ad6 (tm:Tm) (k:Nat) (d:D) (r:Tm):z6 os ts tm ((k,d)::r)=(tm.get k=d.cm os ts∧d.ok os.length ts.length=true∧z6 os ts tm r):=nd rfl
theorem Km (rows:List (List D)) (h:D.gZ 0 0 rows=true):D.oI os ts rows=rows:=iV os ts rows h
theorem ET (row:List D) (h:D.bp 0 0 row=true):D.dY os ts row=row:=eZ os ts row h
theorem Pw (rows:List (List D)) (h:D.gZ 0 0 rows=true):D.gZ n m rows=true:=l7 (Nat.zero_le n) (Nat.zero_le m) rows h
theorem Ic (row:List D) (h:D.bp 0 0 row=true):D.bp n m row=true:=ib (Nat.zero_le n) (Nat.zero_le m) row h
theorem BW (p:Pg):D.dY os ts (bA p)=bA p:=ET _ _ _ (gv p)
theorem Mh (p:Sm):D.dY os ts (aU p)=aU p:=ET _ _ _ (km p)
theorem zz (l:List Pc):D.oI os ts (l.map bG)=l.map bG:=Km _ _ _ (vV l)
theorem VT (l:List Sm):D.oI os ts (l.map aU)=l.map aU:=Km _ _ _ (iH l)
theorem nw (l:List aD):D.oI os ts (l.map encStr)=l.map encStr:=Km _ _ _ (eD l)
theorem BX (p:Pc):D.dY os ts (bG p)=bG p:=ET _ _ _ (uY p)
theorem EU (p:Pc):D.bp n m (bG p)=true:=Ic _ _ _ (uY p)
theorem EV (p:Pg):D.bp n m (bA p)=true:=Ic _ _ _ (gv p)
theorem Sx (p:Sm):D.bp n m (aU p)=true:=Ic _ _ _ (km p)
theorem BY (l:List Pc):D.gZ n m (l.map bG)=true:=Pw _ _ _ (vV l)
theorem ZT (l:List Sm):D.gZ n m (l.map aU)=true:=Pw _ _ _ (iH l)
theorem sj (l:List aD):D.gZ n m (l.map encStr)=true:=Pw _ _ _ (eD l)
theorem EW : ∀ l:List Pc,D.bp 0 0 ((l.map bG).flatten)=true:=fun l=>by
 have h:=vV l
 rw [DH,List.all_eq_true]at h
 rw [xM,List.all_eq_true]
 intro d hd
 obtain⟨r,hr,hd⟩:=List.mem_flatten.1 hd
 have:=h r hr
 rw [xM,List.all_eq_true]at this
 exact this d hd
theorem sk (l:List Pc):D.dY os ts ((l.map bG).flatten)=(l.map bG).flatten:=ET _ _ _ (EW l)
theorem uI (l:List Pc):D.bp n m ((l.map bG).flatten)=true:=Ic _ _ _ (EW l)
theorem ZU (l:List Pc):D.gF n m ((l.map bG).flatten)=(l.map bG).flatten:=il _ _ _ (EW l)
end
attribute [go_sem] BX EU agY agZ ZJ ag0 adY ag1 adZ ag2 ad0 ad1 ZK ZL VN ad2 ZM ZN Sw ZO VO ZP VP ZQ VQ VR ad3 ad4 Pv VS ZR ZS ad5 ad6 BW Mh zz VT nw EV Sx BY ZT sj sk uI ZU
mutual
theorem ad7 (o g:Nat) (rows:List (List D)) : ∀ d,D.ok 0 0 d=true→D.fM o g rows d=d
 | .junk,_=>by simp [D.fM]
 | .int k n,_=>by simp [D.fM]
 | .bool b,_=>by simp [D.fM]
 | .str l,_=>by simp [D.fM]
 | .eR,_=>by simp [D.fM]
 | .val v,_=>by simp [D.fM]
 | .fy z,_=>by simp [D.fM]
 | .fm T o,h=>by simp [D.ok]at h
 | .fY o,h=>by simp [D.ok]at h
 | .er z o g len,h=>by simp [D.ok]at h
 | .fu o g off,h=>by simp [D.ok]at h
 | .ptr o f,h=>by simp [D.ok]at h
 | .gj f cs,h=>by
  simp only [D.ok]at h
  simp only [D.fM,sm o g rows cs h]
 | .dG r f,h=>by
  simp only [D.ok]at h
  simp only [D.fM,sm o g rows r h]
 | .slice t z rs,h=>by
  simp only [D.ok,Bool.and_eq_true]at h
  simp only [D.fM,yq o g rows rs h.2]
 | .agg cs,h=>by
  simp only [D.ok]at h
  simp only [D.fM,sm o g rows cs h]
 | .tuple cs,h=>by
  simp only [D.ok]at h
  simp only [D.fM,sm o g rows cs h]
theorem sm (o g:Nat) (rows:List (List D)) : ∀ l,D.bp 0 0 l=true→D.kM o g rows l=l
 | [],_=>by simp [D.kM]
 | d::r,h=>by
  simp only [D.bp,Bool.and_eq_true]at h
  simp only [D.kM,ad7 o g rows d h.1,sm o g rows r h.2]
theorem yq (o g:Nat) (rows:List (List D)) : ∀ l,D.gZ 0 0 l=true→D.rE o g rows l=l
 | [],_=>by simp [D.rE]
 | d::r,h=>by
  simp only [D.gZ,Bool.and_eq_true]at h
  simp only [D.rE,sm o g rows d h.1,yq o g rows r h.2]
end
section
variable (o g:Nat) (rows:List (List D)) (n m:Nat)
theorem ag3 (q off:Nat):D.fM o g rows (.ptr q off) = .ptr q off:=nd (by simp only [D.fM])
theorem ad8 (q h off:Nat):D.fM o g rows (.fu q h off) = .fu q h off:=nd (by simp only [D.fM])
theorem ag4 (z o' g' len:Nat):D.fM o g rows (.er z o' g' len)=if o'=o∧g'=g∧len=rows.length then .slice .shared z rows else .er z o' g' len:=nd (by simp only [D.fM])
theorem ZV (t:Tag) (z:Nat) (rs:List (List D)):D.fM o g rows (.slice t z rs) = .slice t z (D.rE o g rows rs):=nd (by simp only [D.fM])
theorem ag5 (l:List D):D.fM o g rows (.agg l) = .agg (D.kM o g rows l):=nd (by simp only [D.fM])
theorem ad9:D.fM o g rows .junk = .junk:=nd (by simp only [D.fM])
theorem ag6 (k:IntKind) (x:Int):D.fM o g rows (.int k x) = .int k x:=nd (by simp only [D.fM])
theorem aea (b:Bool):D.fM o g rows (.bool b) = .bool b:=nd (by simp only [D.fM])
theorem ag7 (l:List UInt8):D.fM o g rows (.str l) = .str l:=nd (by simp only [D.fM])
theorem ZW:D.kM o g rows [] = []:=nd (by simp only [D.kM])
theorem ZX (d:D) (l:List D):D.kM o g rows (d::l)=D.fM o g rows d::D.kM o g rows l:=nd (by simp only [D.kM])
theorem aqH (p:Pg):D.kM o g rows (bA p)=bA p:=sm _ _ _ _ (gv p)
theorem ag8 (l:List Pc):D.rE o g rows (l.map bG)=l.map bG:=yq _ _ _ _ (vV l)
theorem ag9 (l:List Sm):D.rE o g rows (l.map aU)=l.map aU:=yq _ _ _ _ (iH l)
theorem aeb (l:List aD):D.rE o g rows (l.map encStr)=l.map encStr:=yq _ _ _ _ (eD l)
theorem aha (ds:List D):z7 o g rows n m ds=D.gF n m (D.kM o g rows ds):=nd rfl
theorem aec (tm:Tm):ER o g rows m tm [] = True:=nd rfl
theorem aed (tm:Tm) (k:Nat) (d:D) (r:Tm):ER o g rows m tm ((k,d)::r)=(Wk (((tm.get k).fM o g rows).fg o m) d∧ER o g rows m tm r):=nd rfl
end
attribute [go_sem] ag3 ad8 ag4 ZV ag5 ad9 ag6 aea ag7 ZW ZX aqH ag8 ag9 aeb aha aec aed
theorem aB.yp {P:Program} {f:FuncId} {args:List D} {d d':D} {aw dW:List (List D)} (os:List Nat) (h:aB P f args S0 d ⟨aw,[]⟩) (tT:os.Nodup) (kO : ∀ o∈os,o<aw.length) (ho:dW.length=os.length)
 (oJ : ∀ (i o:Nat) (ds:List D),os[i]? = some o→dW[i]? = some ds→aw[o]? = some (D.dY os [] ds)∧D.bp os.length 0 ds=true) (hd:d'.cm os [] = d) (Ck:d'.ok os.length 0=true):aB P f args S0 d' ⟨dW,[]⟩:=by
 intro M0 w0 gi r0 j9 Vb ha
 refine(h M0 w0 gi r0 j9 Vb ha).mono ?_
 rintro en w ⟨M,d1,v,s',rfl,⟨rfl,rfl⟩,e,r,hv⟩
 have r1:Rel (fL M os []) ⟨dW,[]⟩ w:=r.sub tT List.nodup_nil kO ho oJ rfl (fun i t h=>by simp at h)
 have loc : ∀ (i:Nat) o,os[i]? = some o→(fL M os []).loc i=M.loc o:=fun i o h=>by simp only [fL,rV h]
 refine⟨fL M os [],d',v,_,rfl,⟨rfl,rfl⟩,⟨⟨e.le.G,Nat.zero_le _,fun o h=>absurd h (Nat.not_lt_zero _),Nat.zero_le _,fun t n' h=>absurd h (Nat.not_lt_zero _)⟩,fun b hb _ _=>e.kept b hb (fun o h=>absurd h (Nat.not_lt_zero _)) (fun t c z ⟨n,hn⟩=>by simp [S0]at hn),fun o h3 h4=> ?_,
  fun t b c z ⟨n,hn⟩=>by simp at hn,e.qf,e.size,e.os,e.tape,e.output⟩,r1, ?_⟩
 ·simp only at h4
  rw [ho]at h4
  obtain⟨q,hq⟩ : ∃ q,os[o]? = some q:=⟨_,List.getElem?_eq_getElem h4⟩
  rw [show(fL M os []).mu o=M.mu q from congrArg Prod.fst (loc o q hq)]
  exact e.qe q (.inl (Nat.zero_le _)) (kO q (List.mem_of_getElem? hq))
 ·exact RD.BH (M:=M) (M0:=fL M os []) (s:=⟨aw,[]⟩) (s0:=⟨dW,[]⟩) rfl loc ho (fun i t h=>by simp at h) (fun i t h=>by simp at h) rfl hv _ hd Ck
theorem aB.X7 {P:Program} {f:FuncId} {args row:List D} {d:D} (h:aB P f args S0 d ⟨[row],[]⟩) (ha:D.bp 0 0 args=true) (hr:D.bp 0 0 row=true) (s:St):aB P f args s (d.cm [s.aw.length] []) ⟨s.aw++ [row],s.aA⟩:=by
 refine ew.frame [] [] h List.nodup_nil List.nodup_nil (by simp) (by simp) rfl (by simp) rfl (by simp) (by rw [eZ _ _ _ ha]) ha ?_
 rintro _ _ ⟨rfl,rfl⟩
 refine⟨by simp [D.back,jn], ?_⟩
 simp [St.back,jO,jn,eZ _ _ _ hr]
end Go.Abs

/-! Cp3 -/

namespace Go.Abs
set_option maxRecDepth 8000
open Go.Proofs
theorem Kn (l:List Pc):((l.map bG).flatten).length=l.length*5:=vA bG 5 (fun f=>rfl) l
def B0:List D:= [.junk, .junk, .junk, .junk, .junk]
abbrev Ie (procs:List Pc) (k:Int):Tm:= [(3, .ptr 1 0),(4, .ptr 2 0),(5, .ptr 3 0),(14, .slice .shared 5 (procs.map bG)),(15, .int .i64 (procs.length:Int)),(16, .int .i64 k)]
abbrev mA (l:List Pc):List D:= .int .i64 ((l.length - 1:Nat):Int)::(l.map bG).flatten
theorem ahb {globals:List aD} {procs:List Pc} (hp:(⟨globals,procs⟩:Pg).size<1000000) (h0:procs≠ []) {t:Sm} (ht:t.BV<10000000) {R:List Pc} (hR:procs.map (Pc.fe (ep t))=R) :
 aB Tryz.prog q7 [.agg (bA ⟨globals,procs⟩), .agg (aU t)] S0 (.agg [.slice .shared 1 (globals.map encStr), .er 5 4 (R.length - 1) R.length])
  ⟨[bA ⟨globals,procs⟩,aU t,[.junk, .junk],[.junk, .junk],mA R],[]⟩:=by
 simp only [Pg.size]at hp
 have hlen:procs.length<1000000:=by have:=Pc.cM procs;omega
 have hG:=fun s=>uH (l:=globals) (by omega) s
 unfold S0
 refine aB.goK 5 0 (Nat.zero_le _) (Nat.zero_le _) Jx rfl fun B Q hB hQ=> ?_
 have⟨hF,hP,gA,gB⟩:=bF
 obtain⟨y0,Px,Ba⟩ : ∃ y r,procs.drop 0=y::r:=by
  cases procs with
  | nil=>exact absurd rfl h0
  | cons y r=>exact⟨y,r,rfl⟩
 obtain⟨yW,g20,aqI,g40⟩:=drop_cons Ba
 have Py:decide ((0:Int)<(procs.length:Int))=true:=by simpa using aqI
 have hR0:Pc.fe (ep t) y0::Px.map (Pc.fe (ep t))=R:=by
  have:procs=y0::Px:=by simpa using Ba
  rw [← hR,this];rfl
 have dR:(1:Nat)*113≤bl:=by simp only [bl];omega
 have fV:=fun(tg:Tag) (r:List D) (s:St)=>VL (z:=5) (bytes:=112) tg r s (by simp only [bl];omega)
 -- the rounds behind the first one
 have loop:bh Tryz.prog B 47 UI (gK 0 (jv (gD Tryz.prog B 47 UJ Q) Q)) (Ie procs ((1:Nat):Int)) ⟨[bA ⟨globals,procs⟩,aU t,[.junk, .junk],[.slice .shared 1 (globals.map encStr), .er 5 4 0 1],mA [Pc.fe (ep t) y0]],[]⟩:=by
  refine bh.ind (ι:=List Pc×Nat×List Pc) (fun i=>procs.drop i.2.1=i.1∧i.2.1=i.2.2.length∧0<i.2.2.length∧i.2.2++i.1.map (Pc.fe (ep t))=R) (fun i=>i.1.length)
   (fun i=>Ie procs (i.2.1:Int)) (fun i=>⟨[bA ⟨globals,procs⟩,aU t,[.junk, .junk],[.slice .shared 1 (globals.map encStr), .er 5 4 (i.2.2.length - 1) i.2.2.length],mA i.2.2],[]⟩) ?_ (Px,1,[Pc.fe (ep t) y0]) ⟨g20,rfl,Nat.zero_lt_one,hR0⟩
  rintro⟨rest,k,acc⟩ ⟨h1,h2,h3,h4⟩ IH
  dsimp only at h1 h2 h3 h4
  subst h2
  have qB:acc.length≤procs.length:=by
   have:=congrArg List.length h4
   rw [← hR]at this
   simp at this;omega
  cases rest with
  | nil=>
   have hF:=drop_nil h1
   simp only [List.map_nil,List.append_nil]at h4
   subst h4
   repeat' (first
 | simp only [go_sem,hF,hP,gA,gB]
 | (with_reducible first | refine bq fun hc=> ?_ | refine br fun hc=> ?_ | refine bt (fun hc=> ?_) fun hc=> ?_) <;> (try simp only [hc,bs, ↓reduceIte]at h) <;> try simp only [hc]
 | (with_reducible refine aC hQ ?_;exact jR)
 | (cases h;done))
  | cons y rest=>
   obtain⟨hP,g2,hF,g4⟩:=drop_cons h1
   have dN:=Pc.bT (List.mem_of_getElem? hP)
   obtain⟨name,params,vars,body,fin⟩:=y
   simp only [Pc.size]at dN
   have hk:acc.length<4611686018427387904:=by omega
   have c1:=fun s=>uH (l:=vars) (by omega) s
   have c2:=fun s=>uH (l:=fin) (by omega) s
   have c3:=fun s=>Sr ht (l:=body) (by omega) s
   have e2:Pc.fe (ep t) ⟨name,params,vars,body,fin⟩ = ⟨name,params,vars,Sm.kf (ep t) body,fin⟩:=rfl
   have Hd:=fun(tg:Tag) (r a b c d e f:List D) (T:List (Option Nat))=>ZI (s:=⟨[a,b,c,d,mA acc,e,f],T⟩) (o:=4) (g:=acc.length - 1) (len:=acc.length) (z:=5) (bytes:=112) (t:=tg) (r:=r) rfl (Kn acc) (by unfold bl;omega)
   have e3:acc.length - 1+1=acc.length:=by omega
   have e6 : ∀ f:Pc,mA (acc++ [f]) = .int .i64 (acc.length:Int)::((acc.map bG).flatten++bG f):=fun f=>by simp
   have e7 : ∀ f:Pc,(acc++ [f]).length=acc.length+1:=fun f=>by simp
   cases params with
   | nil=>
    have ha:=fun o T=>Dg (size:=2) (bytes:=24) (z:=0) (z':=2) (g:= .shared) o T
    repeat' (first
 | simp only [go_sem,hF,hP,gA,gB,ha,Hd,e3]
 | (with_reducible refine CU (c1 _) ?_)
 | (with_reducible refine CU (c2 _) ?_)
 | (with_reducible refine CU (c3 _) ?_)
 | (with_reducible first | refine bq fun hc=> ?_ | refine br fun hc=> ?_ | refine bt (fun hc=> ?_) fun hc=> ?_) <;> (try simp only [hc,bs, ↓reduceIte]at h) <;> try simp only [hc]
 | (with_reducible refine aC hQ ?_;(try cases h);simp only [ay,az,bu,bw,go_sem,hF,hP,gA,gB,ha,Hd,e3];try exact kb)
 | (cases h;done))
    refine dH 5 0 ?_ ?_ (IH (rest,acc.length+1,acc++ [Pc.fe (ep t) ⟨name,[],vars,body,fin⟩]) ⟨g2,by simp,by simp,by rw [← h4];simp⟩ (Nat.lt_succ_self _))
    ·(simp only [go_sem,hF,hP,gA,gB,aJ hk,e2,e3,e6,e7,Nat.add_sub_cancel];try exact bH)
    ·(simp only [go_sem,hF,hP,gA,gB,aJ hk,e2,e3,e6,e7,Nat.add_sub_cancel];try exact bH)
   | cons q params=>
    have ha:=fun o T=>Df (size:=2) (bytes:=24) (rows:=(q::params).map fS) (by simp) (by simp only [List.length_map];unfold bl;omega) (z:=0) (g:= .shared) o T
    generalize q::params=ps at *
    repeat' (first
 | simp only [go_sem,hF,hP,gA,gB,ha,Hd,e3]
 | (with_reducible refine CU (c1 _) ?_)
 | (with_reducible refine CU (c2 _) ?_)
 | (with_reducible refine CU (c3 _) ?_)
 | (with_reducible first | refine bq fun hc=> ?_ | refine br fun hc=> ?_ | refine bt (fun hc=> ?_) fun hc=> ?_) <;> (try simp only [hc,bs, ↓reduceIte]at h) <;> try simp only [hc]
 | (with_reducible refine aC hQ ?_;(try cases h);simp only [ay,az,bu,bw,go_sem,hF,hP,gA,gB,ha,Hd,e3];try exact kb)
 | (cases h;done))
    refine dH 5 0 ?_ ?_ (IH (rest,acc.length+1,acc++ [Pc.fe (ep t) ⟨name,ps,vars,body,fin⟩]) ⟨g2,by simp,by simp,by rw [← h4];simp⟩ (Nat.lt_succ_self _))
    ·(simp only [go_sem,hF,hP,gA,gB,aJ hk,e2,e3,e6,e7,Nat.add_sub_cancel];try exact bH)
    ·(simp only [go_sem,hF,hP,gA,gB,aJ hk,e2,e3,e6,e7,Nat.add_sub_cancel];try exact bH)
 repeat' (first
 | simp only [go_sem,hF,hP,gA,gB]
 | (with_reducible refine CU (hG _) ?_)
 | (with_reducible first | refine bq fun hc=> ?_ | refine br fun hc=> ?_ | refine bt (fun hc=> ?_) fun hc=> ?_) <;> (try simp only [hc,bs, ↓reduceIte]at h) <;> try simp only [hc]
 | (with_reducible refine aC hQ ?_;exact jR)
 | (cases h;done))
 refine cO 4 0 (bh.o7 (tm:=Ie procs 0) (s:=⟨[bA ⟨globals,procs⟩,aU t,[.junk, .junk],[.slice .shared 1 (globals.map encStr), .fy 5]],[]⟩) ?_)
 have dN:=Pc.bT (List.mem_of_getElem? yW)
 obtain⟨name,params,vars,body,fin⟩:=y0
 simp only [Pc.size]at dN
 have c1:=fun s=>uH (l:=vars) (by omega) s
 have c2:=fun s=>uH (l:=fin) (by omega) s
 have c3:=fun s=>Sr ht (l:=body) (by omega) s
 have e2:Pc.fe (ep t) ⟨name,params,vars,body,fin⟩ = ⟨name,params,vars,Sm.kf (ep t) body,fin⟩:=rfl
 have w1:IntKind.wrap .i64 ((0:Int)+1)=((1:Nat):Int):=rfl
 have yp:=bh.VM (P:=Tryz.prog) (a:=UI) (Q:=gK 0 (jv (gD Tryz.prog B 47 UJ Q) Q)) (nt:=47) (tm:=Ie procs ((1:Nat):Int)) (s:=⟨[bA ⟨globals,procs⟩,aU t,[.junk, .junk],[.slice .shared 1 (globals.map encStr), .er 5 6 0 1],B0,B0,mA [Pc.fe (ep t) ⟨name,params,vars,body,fin⟩]],[]⟩)
  hB [0,1,2,3,6] _ _ (by decide) (by simp) (by simp [xv,D.dY,D.cm,D.bp,D.ok,Tag.cm,Tag.ok,BW,Mh,BX,EU,nw,EV,Sx,sj,sk,uI]) (by simp [z6,Tm.get,D.cm,D.ok,Tag.cm,Tag.ok,zz,BY]) loop
 have e4:mA [⟨name,params,vars,Sm.kf (ep t) body,fin⟩] = [.int .i64 0, .str name, .slice .shared 2 (params.map fS), .slice .shared 1 (vars.map encStr), .slice .shared 13 ((Sm.kf (ep t) body).map aU), .slice .shared 1 (fin.map encStr)]:=rfl
 cases params with
 | nil=>
  have ha:=fun o T=>Dg (size:=2) (bytes:=24) (z:=0) (z':=2) (g:= .shared) o T
  repeat' (first
 | simp only [go_sem,hF,hP,gA,gB,yW,Py,dR,ha,fV]
 | (with_reducible refine CU (c1 _) ?_)
 | (with_reducible refine CU (c2 _) ?_)
 | (with_reducible refine CU (c3 _) ?_)
 | (with_reducible first | refine bq fun hc=> ?_ | refine br fun hc=> ?_ | refine bt (fun hc=> ?_) fun hc=> ?_) <;> (try simp only [hc,bs, ↓reduceIte]at h) <;> try simp only [hc]
 | (with_reducible refine aC hQ ?_;(try cases h);simp only [ay,az,bu,bw,go_sem,hF,hP,gA,gB,yW,Py,dR,ha,fV];try exact kb)
 | (cases h;done))
  refine dH 7 0 ?_ ?_ (yp)
  ·(simp only [go_sem,hF,hP,gA,gB,w1,e2,e4,B0];try exact bH)
  ·(simp only [go_sem,hF,hP,gA,gB,w1,e2,e4,B0];try exact bH)
 | cons q params=>
  have ha:=fun o T=>Df (size:=2) (bytes:=24) (rows:=(q::params).map fS) (by simp) (by simp only [List.length_map];unfold bl;omega) (z:=0) (g:= .shared) o T
  generalize q::params=ps at *
  repeat' (first
 | simp only [go_sem,hF,hP,gA,gB,yW,Py,dR,ha,fV]
 | (with_reducible refine CU (c1 _) ?_)
 | (with_reducible refine CU (c2 _) ?_)
 | (with_reducible refine CU (c3 _) ?_)
 | (with_reducible first | refine bq fun hc=> ?_ | refine br fun hc=> ?_ | refine bt (fun hc=> ?_) fun hc=> ?_) <;> (try simp only [hc,bs, ↓reduceIte]at h) <;> try simp only [hc]
 | (with_reducible refine aC hQ ?_;(try cases h);simp only [ay,az,bu,bw,go_sem,hF,hP,gA,gB,yW,Py,dR,ha,fV];try exact kb)
 | (cases h;done))
  refine dH 7 0 ?_ ?_ (yp)
  ·(simp only [go_sem,hF,hP,gA,gB,w1,e2,e4,B0];try exact bH)
  ·(simp only [go_sem,hF,hP,gA,gB,w1,e2,e4,B0];try exact bH)
end Go.Abs

/-! Nb1 -/

namespace Go.Abs
set_option maxRecDepth 8000
open Go.Proofs
theorem ahc:(⟨-1,0,[],[],[],nu,false,[],[],[]⟩:Sm).BV<10000000:=by decide
def ff:Sm:=⟨-1,0,[],[],[],nu,false,[],[],[]⟩
theorem aee:aU ff = [.int .i64 (-1), .int .i64 0, .slice .shared 1 [], .str [], .str [], .int .i64 0, .int .i64 0, .str [], .slice .shared 4 [], .bool false, .slice .shared 6 [], .slice .shared 13 [], .slice .shared 13 []]:=rfl
theorem ahd {p:Pg} (hp:p.size<1000000) (h0:p.procs≠ []) {t:Sm} (ht:t.BV<10000000) (st:St) :
 aB Tryz.prog q7 [.agg (bA p), .agg (aU t)] st (.agg [.slice .shared 1 (p.globals.map encStr), .er 5 st.aw.length (p.procs.length - 1) p.procs.length]) ⟨st.aw++ [mA (p.put t).procs],st.aA⟩:=by
 obtain⟨globals,procs⟩:=p
 show aB _ _ _ _ _ ⟨st.aw++ [mA (procs.map (Pc.fe (ep t)))],st.aA⟩
 have h1:=ahb hp h0 ht (R:=procs.map (Pc.fe (ep t))) rfl
 have hl:(procs.map (Pc.fe (ep t))).length=procs.length:=List.length_map ..
 generalize procs.map (Pc.fe (ep t))=R at *
 rw [hl]at h1
 have h2:=aB.yp (d':= .agg [.slice .shared 1 (globals.map encStr), .er 5 0 (procs.length - 1) procs.length]) (dW:= [mA R]) [4] h1 (by decide) (by simp) rfl (fun i o ds e1 e2=>by
  cases i with
  | zero=>
   simp only [List.getElem?_cons_zero,Option.some.injEq]at e1 e2
   subst e1 e2
   exact⟨by simp [D.dY,D.cm,sk,hl],by simp [D.bp,D.ok,uI]⟩
  | succ i=>simp at e1) (by simp [D.cm,D.dY,Tag.cm,nw]) (by simp [D.ok,D.bp,Tag.ok,sj])
 have h3:=h2.X7 (by simp [D.bp,D.ok,gv,km]) (by simp [D.bp,D.ok,EW]) st
 simpa [D.cm,D.dY,Tag.cm,nw]using h3
theorem Sz {p:Pg} (hp:p.size<1000000) (h0:p.procs≠ []) (st:St) :
 aB Tryz.prog pM [.agg (bA p)] st (.agg [.slice .shared 1 (p.globals.map encStr), .er 5 st.aw.length (p.procs.length - 1) p.procs.length]) ⟨st.aw++ [mA (p.put ff).procs],st.aA⟩:=by
 have h1:=fun s=>ahd hp h0 (t:=ff) ahc s
 have h2 : ∀ s:St,aB Tryz.prog q7 [.agg (bA p), .agg [.int .i64 (-1), .int .i64 0, .slice .full 0 [], .str [], .str [], .int .i64 0, .int .i64 0, .str [], .slice .full 0 [], .bool false, .slice .full 0 [], .slice .full 0 [], .slice .full 0 []]] s
  (.agg [.slice .shared 1 (p.globals.map encStr), .er 5 s.aw.length (p.procs.length - 1) p.procs.length]) ⟨s.aw++ [mA (p.put ff).procs],s.aA⟩:=
  fun s=>ew.AS (.cons (Wk.refl _) (.cons (by rw [aee];exact Wk.agg (.cons (Wk.refl _) (.cons (Wk.refl _) (.cons (Wk.nil _ _ _) (.cons (Wk.refl _) (.cons (Wk.refl _) (.cons (Wk.refl _) (.cons (Wk.refl _) (.cons (Wk.refl _) (.cons (Wk.nil _ _ _) (.cons (Wk.refl _) (.cons (Wk.nil _ _ _) (.cons (Wk.nil _ _ _) (.cons (Wk.nil _ _ _) .nil)))))))))))))) .nil)) (h1 s)
 have key:aB Tryz.prog pM [.agg (bA p)] S0 (.agg [.slice .shared 1 (p.globals.map encStr), .er 5 2 (p.procs.length - 1) p.procs.length]) ⟨[bA p,[.junk, .junk],mA (p.put ff).procs],[]⟩:=by
  unfold S0
  refine aB.goK 3 0 (Nat.zero_le _) (Nat.zero_le _) Hu rfl fun B Q hB hQ=> ?_
  have⟨hF,hP,gA,gB⟩:=bF
  generalize (p.put ff).procs=R at *
  repeat' (first
 | simp only [go_sem,hF,hP,gA,gB]
 | (with_reducible refine CU (h2 _) ?_)
 | (with_reducible first | refine bq fun hc=> ?_ | refine br fun hc=> ?_ | refine bt (fun hc=> ?_) fun hc=> ?_) <;> (try simp only [hc,bs, ↓reduceIte]at h) <;> try simp only [hc]
 | (with_reducible refine aC hQ ?_;exact jR)
 | (cases h;done))
 generalize (p.put ff).procs=R at *
 have h3:=aB.yp (d':= .agg [.slice .shared 1 (p.globals.map encStr), .er 5 0 (p.procs.length - 1) p.procs.length]) (dW:= [mA R]) [2] key (by decide) (by simp) rfl (fun i o ds e1 e2=>by
  cases i with
  | zero=>
   simp only [List.getElem?_cons_zero,Option.some.injEq]at e1 e2
   subst e1 e2
   exact⟨by simp [D.dY,D.cm,sk],by simp [D.bp,D.ok,uI]⟩
  | succ i=>simp at e1) (by simp [D.cm,D.dY,Tag.cm,nw]) (by simp [D.ok,D.bp,Tag.ok,sj])
 have h4:=h3.X7 (by simp [D.bp,D.ok,gv]) (by simp [D.bp,D.ok,EW]) st
 simpa [D.cm,D.dY,Tag.cm,nw]using h4
end Go.Abs

/-! Nb2 -/

namespace Go.Abs
set_option maxRecDepth 8000
open Go.Proofs
abbrev X8 (N:Nat):Prop:=∀ (l:List Sm) (n:Nat),Sm.aR l<N→n+Sm.aR l<1000000000→∀ s:St,aB Tryz.prog je [.slice .shared 13 (l.map aU), .int .i64 (n:Int)] s
 (.tuple [.slice .shared 13 ((Sm.cE true n l).1.map aU), .int .i64 ((Sm.cE true n l).2:Int)]) s
theorem HQ {N:Nat} (hN:N<10000000) (ih:X8 N) (l:List Sm) (n:Nat) (hl:Sm.aR l<N+1) (hn:n+Sm.aR l<1000000000) :
 aB Tryz.prog je [.slice .shared 13 (l.map aU), .int .i64 (n:Int)] S0 (.tuple [.slice .shared 13 ((Sm.cE true n l).1.map aU), .int .i64 ((Sm.cE true n l).2:Int)]) S0:=by
 have hlen:l.length<10000001:=by have:=Sm.cM l;omega
 have hle:=Sm.n4 true n l
 generalize hR:Sm.cE true n l=R at *
 unfold S0
 refine aB.go B7 rfl fun B Q hB hQ=> ?_
 have⟨hF,hP,gA,gB⟩:=bF
 repeat' (first
 | simp only [go_sem,hF,hP,gA,gB]
 | (with_reducible first | refine bq fun hc=> ?_ | refine br fun hc=> ?_ | refine bt (fun hc=> ?_) fun hc=> ?_) <;> (try simp only [hc,bs, ↓reduceIte]at h) <;> try simp only [hc]
 | (with_reducible refine aC hQ ?_;exact jR)
 | (cases h;done))
 refine bh.l6 6 13 rfl ?_
 simp only [go_sem,hF,hP,gA,gB]
 refine cO 0 1 (bh.ind (ι:=List Sm×Nat×List Sm×Nat) (fun i=>l.drop i.2.1=i.1∧i.2.1=i.2.2.1.length∧(i.2.2.1++(Sm.cE true i.2.2.2 i.1).1,(Sm.cE true i.2.2.2 i.1).2)=R∧i.2.2.2+Sm.aR i.1≤n+Sm.aR l) (fun i=>i.1.length)
  (fun i=> [(1, .int .i64 (i.2.2.2:Int)),(6, .slice (.tok 0) 13 (i.2.2.1.map aU)),(10, .slice .shared 13 (l.map aU)),(11, .int .i64 (l.length:Int)),(12, .int .i64 (i.2.1:Int))])
  (fun i=>⟨[],[some i.2.1]⟩) ?_ (l,0,[],n) ⟨rfl,rfl,by simpa using hR,Nat.le_refl _⟩)
 rintro⟨rest,k,acc,m⟩ ⟨h1,h2,h3,h4⟩ IH
 dsimp only at h1 h2 h3 h4
 subst h2
 cases rest with
 | nil=>
  have hF:=drop_nil h1
  simp only [Sm.cE,List.append_nil]at h3
  subst h3
  repeat' (first
 | simp only [go_sem,hF,hP,gA,gB]
 | (with_reducible first | refine bq fun hc=> ?_ | refine br fun hc=> ?_ | refine bt (fun hc=> ?_) fun hc=> ?_) <;> (try simp only [hc,bs, ↓reduceIte]at h) <;> try simp only [hc]
 | (with_reducible refine aC hQ ?_;exact jR)
 | (cases h;done))
 | cons y rest=>
  obtain⟨hP,g2,hF,g4⟩:=drop_cons h1
  have hk:acc.length<4611686018427387904:=by omega
  have dN:y.size≤N:=by have:=Sm.bT (List.mem_of_getElem? hP);omega
  obtain⟨id,kind,labels,name,proc,x,has,args,aQ,aM⟩:=y
  simp only [Sm.size]at dN
  simp only [Sm.aR,Sm.size]at h4
  have dR:(acc.length+1)*209≤bl:=by simp only [bl];omega
  have Be:=fun s=>wE (v:=⟨id,kind,labels,name,proc,x,has,args,aQ,aM⟩) (by dsimp only;omega) s
  simp only [Sm.bare,cv,List.map_nil]at Be
  simp only [Sm.cE,Sm.num,if_true]at h3
  have c1:=ih aQ (m+1) (by omega) (by omega)
  have l1:=Sm.n4 true (m+1) aQ
  obtain⟨T,hT⟩ : ∃ T,Sm.cE true (m+1) aQ=T:=⟨_,rfl⟩
  rw [hT]at h3 c1 l1
  have c2:=ih aM T.2 (by omega) (by omega)
  have l2:=Sm.n4 true T.2 aM
  obtain⟨E,hE⟩ : ∃ E,Sm.cE true T.2 aM=E:=⟨_,rfl⟩
  rw [hE]at h3 c2 l2
  have wm:IntKind.wrap .i64 ((m:Int)+1)=((m+1:Nat):Int):=by rw [cV] <;> omega
  repeat' (first
 | simp only [go_sem,hF,hP,gA,gB,dR,wm]
 | (with_reducible refine CU (Be _) ?_)
 | (with_reducible refine CU (c1 _) ?_)
 | (with_reducible refine CU (c2 _) ?_)
 | (with_reducible first | refine bq fun hc=> ?_ | refine br fun hc=> ?_ | refine bt (fun hc=> ?_) fun hc=> ?_) <;> (try simp only [hc,bs, ↓reduceIte]at h) <;> try simp only [hc]
 | (with_reducible refine aC hQ ?_;(try cases h);simp only [ay,az,bu,bw,go_sem,hF,hP,gA,gB,dR,wm];try exact kb)
 | (cases h;done))
  refine dH 0 1 ?_ ?_ (IH (rest,acc.length+1,acc++ [⟨((m+1:Nat):Int),kind,labels,name,proc,x,has,args,T.1,E.1⟩],E.2) ⟨g2,by simp,by rw [← h3];simp,by dsimp only;omega⟩ (Nat.lt_succ_self _))
  ·(simp only [go_sem,hF,hP,gA,gB,aJ hk,cv];try exact bH)
  ·(simp only [go_sem,hF,hP,gA,gB,aJ hk,cv];try exact bH)
theorem Kp : ∀ N,N<10000000→X8 N:=by
 intro N
 induction N with
 | zero=>intro _ l n hl;exact absurd hl (Nat.not_lt_zero _)
 | succ N ih=>
  intro hN l n hl hn s
  exact(HQ (by omega) (ih (by omega)) l n hl hn).pure (by simp [D.bp,D.ok,Tag.ok,iH]) (by simp [D.bp,D.ok,Tag.ok,iH]) s
theorem Pz {l:List Sm} {n:Nat} (h:Sm.aR l<9000000) (hn:n+Sm.aR l<1000000000) (s:St):aB Tryz.prog je [.slice .shared 13 (l.map aU), .int .i64 (n:Int)] s
 (.tuple [.slice .shared 13 ((Sm.cE true n l).1.map aU), .int .i64 ((Sm.cE true n l).2:Int)]) s:=
 Kp 9999999 (by omega) l n (by omega) hn s
mutual
def Sm.iO (id:Int):Sm→Sm
 | ⟨i,kind,labels,name,proc,x,has,args,aQ,aM⟩=>⟨i,kind,labels,name,proc,x,has,args,Sm.iR id aQ,Sm.iR id aM⟩
def Sm.iR (id:Int):List Sm→List Sm
 | []=> []
 | s::l=>if s.id==id then Sm.iR id l else s.iO id::Sm.iR id l
end
abbrev X9 (id:Int) (N:Nat):Prop:=∀ l:List Sm,Sm.aR l<N→∀ s:St,aB Tryz.prog jD [.slice .shared 13 (l.map aU), .int .i64 id] s (.slice .shared 13 ((Sm.iR id l).map aU)) s
theorem Kq (EX:Int) {N:Nat} (hN:N<10000000) (ih:X9 EX N) (l:List Sm) (hl:Sm.aR l<N+1) :
 aB Tryz.prog jD [.slice .shared 13 (l.map aU), .int .i64 EX] S0 (.slice .shared 13 ((Sm.iR EX l).map aU)) S0:=by
 have hlen:l.length<10000001:=by have:=Sm.cM l;omega
 generalize hR:Sm.iR EX l=R
 unfold S0
 refine aB.go CZ rfl fun B Q hB hQ=> ?_
 have⟨hF,hP,gA,gB⟩:=bF
 repeat' (first
 | simp only [go_sem,hF,hP,gA,gB]
 | (with_reducible first | refine bq fun hc=> ?_ | refine br fun hc=> ?_ | refine bt (fun hc=> ?_) fun hc=> ?_) <;> (try simp only [hc,bs, ↓reduceIte]at h) <;> try simp only [hc]
 | (with_reducible refine aC hQ ?_;exact jR)
 | (cases h;done))
 refine bh.l6 5 13 rfl ?_
 simp only [go_sem,hF,hP,gA,gB]
 refine cO 0 1 (bh.ind (ι:=List Sm×Nat×List Sm×Nat) (fun i=>l.drop i.2.1=i.1∧i.2.2.1.length≤i.2.1∧i.2.2.1++Sm.iR EX i.1=R∧i.2.2.2=i.2.2.1.length) (fun i=>i.1.length)
  (fun i=> [(1, .int .i64 EX),(5, .slice (.tok 0) 13 (i.2.2.1.map aU)),(9, .slice .shared 13 (l.map aU)),(10, .int .i64 (l.length:Int)),(11, .int .i64 (i.2.1:Int))])
  (fun i=>⟨[],[some i.2.2.2]⟩) ?_ (l,0,[],0) ⟨rfl,Nat.le_refl _,hR,rfl⟩)
 rintro⟨rest,k,acc,m⟩ ⟨h1,h2,h3,h4⟩ IH
 dsimp only at h1 h2 h3 h4
 subst h4
 cases rest with
 | nil=>
  have hF:=drop_nil h1
  simp only [Sm.iR,List.append_nil]at h3
  subst h3
  repeat' (first
 | simp only [go_sem,hF,hP,gA,gB]
 | (with_reducible first | refine bq fun hc=> ?_ | refine br fun hc=> ?_ | refine bt (fun hc=> ?_) fun hc=> ?_) <;> (try simp only [hc,bs, ↓reduceIte]at h) <;> try simp only [hc]
 | (with_reducible refine aC hQ ?_;exact jR)
 | (cases h;done))
 | cons y rest=>
  obtain⟨hP,g2,hF,g4⟩:=drop_cons h1
  have hk:k<4611686018427387904:=by omega
  have dN:y.size≤N:=by have:=Sm.bT (List.mem_of_getElem? hP);omega
  obtain⟨id,kind,labels,name,proc,x,has,args,aQ,aM⟩:=y
  simp only [Sm.size]at dN
  have dR:(acc.length+1)*209≤bl:=by simp only [bl];omega
  have Be:=fun s=>wE (v:=⟨id,kind,labels,name,proc,x,has,args,aQ,aM⟩) (by dsimp only;omega) s
  simp only [Sm.bare,cv,List.map_nil]at Be
  simp only [Sm.iR,Sm.iO]at h3
  have c1:=ih aQ (by omega)
  have c2:=ih aM (by omega)
  obtain⟨T,hT⟩ : ∃ T,Sm.iR EX aQ=T:=⟨_,rfl⟩
  rw [hT]at h3 c1
  obtain⟨E,hE⟩ : ∃ E,Sm.iR EX aM=E:=⟨_,rfl⟩
  rw [hE]at h3 c2
  rcases Bool.eq_false_or_eq_true (id==EX)with b1 | b1
  ·rw [if_pos b1]at h3
   repeat' (first
 | simp only [go_sem,hF,hP,gA,gB,b1]
 | (with_reducible first | refine bq fun hc=> ?_ | refine br fun hc=> ?_ | refine bt (fun hc=> ?_) fun hc=> ?_) <;> (try simp only [hc,bs, ↓reduceIte]at h) <;> try simp only [hc]
 | (with_reducible refine aC hQ ?_;(try cases h);simp only [ay,az,bu,bw,go_sem,hF,hP,gA,gB,b1];try exact kb)
 | (cases h;done))
   refine dH 0 1 ?_ ?_ (IH (rest,k+1,acc,acc.length) ⟨g2,by dsimp only;omega,h3,rfl⟩ (Nat.lt_succ_self _))
   ·(simp only [go_sem,hF,hP,gA,gB,aJ hk];try exact bH)
   ·(simp only [go_sem,hF,hP,gA,gB,aJ hk];try exact bH)
  ·rw [if_neg (by simp [b1])]at h3
   repeat' (first
 | simp only [go_sem,hF,hP,gA,gB,dR,b1]
 | (with_reducible refine CU (Be _) ?_)
 | (with_reducible refine CU (c1 _) ?_)
 | (with_reducible refine CU (c2 _) ?_)
 | (with_reducible first | refine bq fun hc=> ?_ | refine br fun hc=> ?_ | refine bt (fun hc=> ?_) fun hc=> ?_) <;> (try simp only [hc,bs, ↓reduceIte]at h) <;> try simp only [hc]
 | (with_reducible refine aC hQ ?_;(try cases h);simp only [ay,az,bu,bw,go_sem,hF,hP,gA,gB,dR,b1];try exact kb)
 | (cases h;done))
   refine dH 0 1 ?_ ?_ (IH (rest,k+1,acc++ [⟨id,kind,labels,name,proc,x,has,args,T,E⟩],acc.length+1) ⟨g2,by simp;omega,by rw [← h3];simp,by simp⟩ (Nat.lt_succ_self _))
   ·(simp only [go_sem,hF,hP,gA,gB,aJ hk,cv];try exact bH)
   ·(simp only [go_sem,hF,hP,gA,gB,aJ hk,cv];try exact bH)
theorem Lq (id:Int) : ∀ N,N<10000000→X9 id N:=by
 intro N
 induction N with
 | zero=>intro _ l hl;exact absurd hl (Nat.not_lt_zero _)
 | succ N ih=>
  intro hN l hl s
  exact(Kq id (by omega) (ih (by omega)) l hl).pure (by simp [D.bp,D.ok,Tag.ok,iH]) (by simp [D.bp,D.ok,Tag.ok,iH]) s
theorem SA {id:Int} {l:List Sm} (h:Sm.aR l<9000000) (s:St):aB Tryz.prog jD [.slice .shared 13 (l.map aU), .int .i64 id] s (.slice .shared 13 ((Sm.iR id l).map aU)) s:=
 Lq id 9999999 (by omega) l (by omega) s
end Go.Abs

/-! Nb3 -/

namespace Go.Abs
set_option maxRecDepth 8000
open Go.Proofs
abbrev FZ (g:Nat) (l:List Pc):List D:= .int .i64 (g:Int)::(l.map bG).flatten
abbrev ahe (len k n:Nat) (g:Nat):Tm:= [(1, .ptr 0 0),(2, .ptr 1 0),(3, .ptr 2 0),(4, .int .i64 (n:Int)),(9, .er 5 3 g len),(10, .int .i64 (len:Int)),(11, .int .i64 (k:Int))]
theorem SB {p:Pg} (hp:p.size<1000000) (h0:p.procs≠ []) (st:St):aB Tryz.prog tx [.agg (bA p)] st (.agg (bA p.number)) st:=by
 refine aB.pure ?_ (by simp [D.bp,D.ok,gv]) (by simp [D.ok,gv]) st
 have Cy:=fun s=>Sz hp h0 s
 obtain⟨globals,procs⟩:=p
 simp only [Pg.size]at hp
 have hlen:procs.length<1000000:=by have:=Pc.cM procs;omega
 have qw:((⟨globals,procs⟩:Pg).put ff).procs.length=procs.length:=List.length_map ..
 have JQ:((⟨globals,procs⟩:Pg).put ff).procs=procs.map (Pc.fe (ep ff)):=rfl
 have eH:0<procs.length:=List.length_pos_iff.2 h0
 dsimp only at Cy
 obtain⟨C,hC⟩ : ∃ C,((⟨globals,procs⟩:Pg).put ff).procs=C:=⟨_,rfl⟩
 rw [hC]at Cy qw JQ
 obtain⟨g,hg⟩ : ∃ g,procs.length - 1=g:=⟨_,rfl⟩
 have Hd:mA C=FZ g C:=by rw [← hg, ← qw]
 have SC:bA (⟨globals,procs⟩:Pg) = [.slice .shared 1 (globals.map encStr), .slice .shared 5 (procs.map bG)]:=rfl
 simp only [Hd,hg,SC]at Cy
 generalize hR:Pc.cE 0 procs=R
 have PA:bA (⟨globals,procs⟩:Pg).number = [.slice .shared 1 (globals.map encStr), .slice .shared 5 (R.map bG)]:=by
  unfold Pg.number;rw [hR];rfl
 rw [PA]
 unfold S0
 refine aB.go DT rfl fun B Q hB hQ=> ?_
 have⟨hF,hP,gA,gB⟩:=bF
 have loop : ∀ (rest rF done:List Pc) (n:Nat),procs.drop done.length=rest→rF=rest.map (Pc.fe (ep ff))→done++Pc.cE n rest=R→n+Pc.aR rest≤Pc.aR procs→
  bh Tryz.prog B 32 QDT (gK 0 (jv (gD Tryz.prog B 32 QDY Q) Q)) (ahe procs.length done.length n g) ⟨[bA ⟨globals,procs⟩,[.junk, .junk],[.slice .shared 1 (globals.map encStr), .er 5 3 g procs.length],FZ g (done++rF)],[]⟩:=by
  intro rest
  induction rest with
  | nil=>
   intro rF done n h1 h2 h3 h4
   have hF:=drop_nil h1
   have:rF = []:=by simpa using h2
   subst this
   simp only [Pc.cE,List.append_nil]at h3
   subst h3
   rw [List.append_nil]
   have hdl:procs.length=(done.map bG).length:=by
    rw [List.length_map]
    have h5:=List.drop_eq_nil_iff.1 h1
    have h6:=congrArg List.length hR
    have : ∀ (l:List Pc) (n:Nat),(Pc.cE n l).length=l.length:=by
     intro l
     induction l with
     | nil=>intro n;rfl
     | cons a l ih=>intro n;simp [Pc.cE,ih]
    rw [this]at h6
    exact h6
   refine bh.Pu 3 g 5 (done.map bG) [(2, .ptr 1 0),(3, .ptr 2 0),(10, .int .i64 (procs.length:Int)),(11, .int .i64 (done.length:Int))] [bA ⟨globals,procs⟩,[.junk, .junk],[.slice .shared 1 (globals.map encStr), .slice .shared 5 (done.map bG)]]
    (by rw [hB];exact Nat.zero_le _) rfl ⟨9,_, .inl rfl⟩ (fun row hr=>by obtain⟨a,_,rfl⟩:=List.mem_map.1 hr;rfl) ?_ ?_ (bh.o7 ?_)
   ·simp only [go_sem]
    repeat' (first | exact Ok.out | with_reducible refine aH ?_ ?_)
   ·show hO [z7 _ _ _ _ _ (bA _),z7 _ _ _ _ _ [.junk, .junk],z7 _ _ _ _ _ [.slice .shared 1 _, .er _ _ _ _]] _
    simp only [go_sem,hdl,and_self,if_true]
    exact Ok.out
   ·repeat' (first
 | simp only [go_sem,hF,hP,gA,gB]
 | (with_reducible first | refine bq fun hc=> ?_ | refine br fun hc=> ?_ | refine bt (fun hc=> ?_) fun hc=> ?_) <;> (try simp only [hc,bs, ↓reduceIte]at h) <;> try simp only [hc]
 | (with_reducible refine aC hQ ?_;exact jR)
 | (cases h;replace h:=hr;clear hr;(try simp only [bs, ↓reduceIte]at h))
 | (cases h;done))
  | cons y rest ih=>
   intro rF done n h1 h2 h3 h4
   obtain⟨hP,g2,hF,g4⟩:=drop_cons h1
   subst h2
   have hk:done.length<4611686018427387904:=by omega
   simp only [Pc.aR,Pc.size]at h4
   simp only [Pc.cE]at h3
   have LC:=fun s=>Pz (l:=y.body) (n:=n) (by omega) (by omega) s
   have hle:=Sm.n4 true n y.body
   obtain⟨b,hb⟩ : ∃ b,Sm.cE true n y.body=b:=⟨_,rfl⟩
   rw [hb]at h3 LC hle
   have tW:fU (((done++Pc.fe (ep ff) y::rest.map (Pc.fe (ep ff))).map bG).flatten) (done.length*5+3) [.slice .shared 13 (b.1.map aU)] =
    ((done++ {y with body:=b.1}::rest.map (Pc.fe (ep ff))).map bG).flatten:=ES bG 5 (fun f=>rfl) done _ (Pc.fe (ep ff) y) {y with body:=b.1} 3 _ rfl (by simp)
   have iU:done.length*5+3+1≤(((done++Pc.fe (ep ff) y::rest.map (Pc.fe (ep ff))).map bG).flatten).length:=by rw [Kn];simp;omega
   have IH:=ih (rest.map (Pc.fe (ep ff))) (done++ [{y with body:=b.1}]) b.2 (by rw [List.length_append];exact g2) rfl (by rw [← h3];simp) (by omega)
   have e7:(done++ [{y with body:=b.1}]).length=done.length+1:=by simp
   have e8:done++ [{y with body:=b.1}]++rest.map (Pc.fe (ep ff))=done++ {y with body:=b.1}::rest.map (Pc.fe (ep ff)):=by simp
   rw [e7,e8]at IH
   generalize done++ {y with body:=b.1}::rest.map (Pc.fe (ep ff))=L2 at *
   rw [List.map_cons]
   generalize done++Pc.fe (ep ff) y::rest.map (Pc.fe (ep ff))=L1 at *
   clear ih
   refine bh.o7 ?_
   repeat' (first
 | simp only [go_sem,hF,hP,gA,gB,g4,tW,iU]
 | (with_reducible refine CU (LC _) ?_)
 | (with_reducible first | refine bq fun hc=> ?_ | refine br fun hc=> ?_ | refine bt (fun hc=> ?_) fun hc=> ?_) <;> (try simp only [hc,bs, ↓reduceIte]at h) <;> try simp only [hc]
 | (with_reducible refine aC hQ ?_;(try cases h);simp only [ay,az,bu,bw,go_sem,hF,hP,gA,gB,g4,tW,iU];try exact kb)
 | (cases h;replace h:=hr;clear hr;(try simp only [bs, ↓reduceIte]at h))
 | (cases h;done))
   refine dH 4 0 ?_ ?_ (IH)
   ·(simp only [go_sem,hF,hP,gA,gB,aJ hk];try exact bH)
   ·(simp only [go_sem,hF,hP,gA,gB,aJ hk];try exact bH)
 repeat' (first
 | simp only [go_sem,hF,hP,gA,gB]
 | (with_reducible refine CU (Cy _) ?_)
 | (with_reducible first | refine bq fun hc=> ?_ | refine br fun hc=> ?_ | refine bt (fun hc=> ?_) fun hc=> ?_) <;> (try simp only [hc,bs, ↓reduceIte]at h) <;> try simp only [hc]
 | (with_reducible refine aC hQ ?_;exact jR)
 | (cases h;replace h:=hr;clear hr;(try simp only [bs, ↓reduceIte]at h))
 | (cases h;done))
 have yp:=bh.VM (P:=Tryz.prog) (a:=QDT) (Q:=gK 0 (jv (gD Tryz.prog B 32 QDY Q) Q)) (nt:=32) (tm:= [(1, .ptr 0 0),(2, .ptr 1 0),(3, .ptr 3 0),(4, .int .i64 ((0:Nat):Int)),(9, .er 5 2 g procs.length),(10, .int .i64 (procs.length:Int)),(11, .int .i64 ((0:Nat):Int))])
  (s:=⟨[bA ⟨globals,procs⟩,[.junk, .junk],FZ g C,[.slice .shared 1 (globals.map encStr), .er 5 2 g procs.length]],[]⟩)
  hB [0,1,3,2] _ _ (by decide) (by simp) (by simp [xv,D.dY,D.cm,D.bp,D.ok,Tag.cm,Tag.ok,BW,BX,EU,nw,EV,sj,sk,uI]) (by simp [z6,Tm.get,D.cm,D.ok,Tag.cm,Tag.ok,zz,BY])
  (loop procs C [] 0 rfl JQ (by simpa using hR) (by simp))
 refine cO 4 0 (yp)
end Go.Abs

/-! Nb4 -/

namespace Go.Abs
set_option maxRecDepth 8000
open Go.Proofs
theorem Dh : ∀ (id:Int) (l:List Sm),(Sm.iR id l).length≤l.length
 | _,[]=>Nat.le_refl _
 | id,s::l=>by
  have:=Dh id l
  simp only [Sm.iR]
  split <;> simp <;> omega
mutual
theorem zA (id:Int) : ∀ s:Sm,(s.iO id).size≤s.size
 | ⟨i,kind,labels,name,proc,x,has,args,aQ,aM⟩=>by
  have:=wF id aQ
  have:=wF id aM
  simp only [Sm.iO,Sm.size];omega
theorem wF (id:Int) : ∀ l:List Sm,Sm.aR (Sm.iR id l)≤Sm.aR l
 | []=>Nat.le_refl _
 | s::l=>by
  have:=wF id l
  have:=zA id s
  simp only [Sm.iR,Sm.aR]
  split
  ·omega
  ·simp only [Sm.aR];omega
end
def Pc.iO (id:Int) (f:Pc):Pc:= {f with body:=Sm.iR id f.body}
def Pg.iO (p:Pg) (id:Int):Pg:= {p with procs:=p.procs.map (Pc.iO id)}
theorem Pg.zA (p:Pg) (id:Int):(p.iO id).size≤p.size:=by
 have : ∀ l:List Pc,Pc.aR (l.map (Pc.iO id))≤Pc.aR l:=by
  intro l
  induction l with
  | nil=>exact Nat.le_refl _
  | cons f l ih=>
   have:=wF id f.body
   simp only [List.map_cons,Pc.aR,Pc.size,Pc.iO]at ih ⊢
   omega
 have:=this p.procs
 simp only [Pg.size,Pg.iO];omega
abbrev ahf (id:Int) (len k:Nat) (g:Nat):Tm:= [(1, .int .i64 id),(2, .ptr 0 0),(4, .ptr 1 0),(5, .ptr 2 0),(10, .er 5 3 g len),(11, .int .i64 (len:Int)),(12, .int .i64 (k:Int))]
theorem ZY {p:Pg} (hp:p.size<1000000) (h0:p.procs≠ []) (id:Int) (st:St):aB Tryz.prog wW [.agg (bA p), .int .i64 id] st (.agg (bA (p.iO id).number)) st:=by
 refine aB.pure ?_ (by simp [D.bp,D.ok,gv]) (by simp [D.ok,gv]) st
 have Cy:=fun s=>Sz hp h0 s
 have mj:=fun s=>SB (p:=p.iO id) (by have:=p.zA id;omega) (by simpa [Pg.iO]using h0) s
 generalize hZ:(p.iO id).number=Z at *
 clear hZ
 have hdp:(p.iO id) = ⟨p.globals,p.procs.map (Pc.iO id)⟩:=rfl
 rw [hdp]at mj
 obtain⟨globals,procs⟩:=p
 dsimp only at mj
 simp only [Pg.size]at hp
 have hlen:procs.length<1000000:=by have:=Pc.cM procs;omega
 have qw:((⟨globals,procs⟩:Pg).put ff).procs.length=procs.length:=List.length_map ..
 have JQ:((⟨globals,procs⟩:Pg).put ff).procs=procs.map (Pc.fe (ep ff)):=rfl
 have eH:0<procs.length:=List.length_pos_iff.2 h0
 dsimp only at Cy
 obtain⟨C,hC⟩ : ∃ C,((⟨globals,procs⟩:Pg).put ff).procs=C:=⟨_,rfl⟩
 rw [hC]at Cy qw JQ
 obtain⟨g,hg⟩ : ∃ g,procs.length - 1=g:=⟨_,rfl⟩
 have Hd:mA C=FZ g C:=by rw [← hg, ← qw]
 have SC:bA (⟨globals,procs⟩:Pg) = [.slice .shared 1 (globals.map encStr), .slice .shared 5 (procs.map bG)]:=rfl
 simp only [Hd,hg,SC]at Cy
 generalize hR:procs.map (Pc.iO id)=R at *
 have aqK:bA (⟨globals,R⟩:Pg) = [.slice .shared 1 (globals.map encStr), .slice .shared 5 (R.map bG)]:=rfl
 simp only [aqK]at mj
 unfold S0
 refine aB.go Hv rfl fun B Q hB hQ=> ?_
 have⟨hF,hP,gA,gB⟩:=bF
 have loop : ∀ (rest rF done:List Pc),procs.drop done.length=rest→rF=rest.map (Pc.fe (ep ff))→done++rest.map (Pc.iO id)=R→
  bh Tryz.prog B 31 QGX (gK 0 (jv (gD Tryz.prog B 31 QH2 Q) Q)) (ahf id procs.length done.length g) ⟨[bA ⟨globals,procs⟩,[.junk, .junk],[.slice .shared 1 (globals.map encStr), .er 5 3 g procs.length],FZ g (done++rF)],[]⟩:=by
  intro rest
  induction rest with
  | nil=>
   intro rF done h1 h2 h3
   have hF:=drop_nil h1
   have:rF = []:=by simpa using h2
   subst this
   simp only [List.map_nil,List.append_nil]at h3
   subst h3
   rw [List.append_nil]
   have hdl:procs.length=(done.map bG).length:=by rw [← hR];simp
   refine bh.Pu 3 g 5 (done.map bG) [(2, .ptr 0 0),(4, .ptr 1 0),(5, .ptr 2 0),(11, .int .i64 (procs.length:Int)),(12, .int .i64 (done.length:Int))] [bA ⟨globals,procs⟩,[.junk, .junk],[.slice .shared 1 (globals.map encStr), .slice .shared 5 (done.map bG)]]
    (by rw [hB];exact Nat.zero_le _) rfl ⟨10,_, .inl rfl⟩ (fun row hr=>by obtain⟨a,_,rfl⟩:=List.mem_map.1 hr;rfl) ?_ ?_ (bh.o7 ?_)
   ·simp only [go_sem]
    repeat' (first | exact Ok.out | with_reducible refine aH ?_ ?_)
   ·show hO [z7 _ _ _ _ _ (bA _),z7 _ _ _ _ _ [.junk, .junk],z7 _ _ _ _ _ [.slice .shared 1 _, .er _ _ _ _]] _
    simp only [go_sem,hdl,and_self,if_true]
    exact Ok.out
   ·repeat' (first
 | simp only [go_sem,hF,hP,gA,gB]
 | (with_reducible refine CU (mj _) ?_)
 | (with_reducible first | refine bq fun hc=> ?_ | refine br fun hc=> ?_ | refine bt (fun hc=> ?_) fun hc=> ?_) <;> (try simp only [hc,bs, ↓reduceIte]at h) <;> try simp only [hc]
 | (with_reducible refine aC hQ ?_;exact jR)
 | (cases h;replace h:=hr;clear hr;(try simp only [bs, ↓reduceIte]at h))
 | (cases h;done))
  | cons y rest ih=>
   intro rF done h1 h2 h3
   obtain⟨hP,g2,hF,g4⟩:=drop_cons h1
   subst h2
   have hk:done.length<4611686018427387904:=by omega
   have AB:=Pc.bT (List.mem_of_getElem? hP)
   simp only [Pc.size]at AB
   have LC:=fun s=>SA (id:=id) (l:=y.body) (by omega) s
   obtain⟨b,hb⟩ : ∃ b,Sm.iR id y.body=b:=⟨_,rfl⟩
   have h3':done++ {y with body:=b}::rest.map (Pc.iO id)=R:=by rw [← h3, ← hb];rfl
   rw [hb]at LC
   have tW:fU (((done++Pc.fe (ep ff) y::rest.map (Pc.fe (ep ff))).map bG).flatten) (done.length*5+3) [.slice .shared 13 (b.map aU)] =
    ((done++ {y with body:=b}::rest.map (Pc.fe (ep ff))).map bG).flatten:=ES bG 5 (fun f=>rfl) done _ (Pc.fe (ep ff) y) {y with body:=b} 3 _ rfl (by simp)
   have iU:done.length*5+3+1≤(((done++Pc.fe (ep ff) y::rest.map (Pc.fe (ep ff))).map bG).flatten).length:=by rw [Kn];simp;omega
   have IH:=ih (rest.map (Pc.fe (ep ff))) (done++ [{y with body:=b}]) (by rw [List.length_append];exact g2) rfl (by rw [← h3'];simp)
   have e7:(done++ [{y with body:=b}]).length=done.length+1:=by simp
   have e8:done++ [{y with body:=b}]++rest.map (Pc.fe (ep ff))=done++ {y with body:=b}::rest.map (Pc.fe (ep ff)):=by simp
   rw [e7,e8]at IH
   generalize done++ {y with body:=b}::rest.map (Pc.fe (ep ff))=L2 at *
   rw [List.map_cons]
   generalize done++Pc.fe (ep ff) y::rest.map (Pc.fe (ep ff))=L1 at *
   clear ih
   refine bh.o7 ?_
   repeat' (first
 | simp only [go_sem,hF,hP,gA,gB,g4,tW,iU]
 | (with_reducible refine CU (LC _) ?_)
 | (with_reducible first | refine bq fun hc=> ?_ | refine br fun hc=> ?_ | refine bt (fun hc=> ?_) fun hc=> ?_) <;> (try simp only [hc,bs, ↓reduceIte]at h) <;> try simp only [hc]
 | (with_reducible refine aC hQ ?_;(try cases h);simp only [ay,az,bu,bw,go_sem,hF,hP,gA,gB,g4,tW,iU];try exact kb)
 | (cases h;replace h:=hr;clear hr;(try simp only [bs, ↓reduceIte]at h))
 | (cases h;done))
   refine dH 4 0 ?_ ?_ (IH)
   ·(simp only [go_sem,hF,hP,gA,gB,aJ hk];try exact bH)
   ·(simp only [go_sem,hF,hP,gA,gB,aJ hk];try exact bH)
 repeat' (first
 | simp only [go_sem,hF,hP,gA,gB]
 | (with_reducible refine CU (Cy _) ?_)
 | (with_reducible first | refine bq fun hc=> ?_ | refine br fun hc=> ?_ | refine bt (fun hc=> ?_) fun hc=> ?_) <;> (try simp only [hc,bs, ↓reduceIte]at h) <;> try simp only [hc]
 | (with_reducible refine aC hQ ?_;exact jR)
 | (cases h;replace h:=hr;clear hr;(try simp only [bs, ↓reduceIte]at h))
 | (cases h;done))
 have yp:=bh.VM (P:=Tryz.prog) (a:=QGX) (Q:=gK 0 (jv (gD Tryz.prog B 31 QH2 Q) Q)) (nt:=31) (tm:= [(1, .int .i64 id),(2, .ptr 0 0),(4, .ptr 1 0),(5, .ptr 3 0),(10, .er 5 2 g procs.length),(11, .int .i64 (procs.length:Int)),(12, .int .i64 ((0:Nat):Int))])
  (s:=⟨[bA ⟨globals,procs⟩,[.junk, .junk],FZ g C,[.slice .shared 1 (globals.map encStr), .er 5 2 g procs.length]],[]⟩)
  hB [0,1,3,2] _ _ (by decide) (by simp) (by simp [xv,D.dY,D.cm,D.bp,D.ok,Tag.cm,Tag.ok,BW,BX,EU,nw,EV,sj,sk,uI]) (by simp [z6,Tm.get,D.cm,D.ok,Tag.cm,Tag.ok,zz,BY])
  (loop procs C [] rfl JQ (by simpa using hR))
 refine cO 4 0 (yp)
def Pg.rot (p:Pg) (n:Nat):Pg:= {p with procs:=p.procs.drop n++p.procs.take n}
end Go.Abs

/-! Jm1 -/

namespace Go.Abs
set_option maxRecDepth 8000
open Go.Proofs
theorem Mi : ∀ (l:List Pc) (n:Nat) (h:Sh),h.lo.length=n→h.hi.length=n→pG h.L.length ((l.map fun f=>Sm.cD f.body).flatten)→
 ∃ lo hi,Sh.go n h l = ⟨h.L++FX n l,h.lo++lo,h.hi++hi⟩∧lo.length=l.length∧hi.length=l.length∧
  ∀ (i:Nat) (f:Pc),l[i]? = some f→∃ a e:List Im,lo[i]? = some (((h.L++a).length:Int)+1)∧hi[i]? = some (((h.L++a++Sm.kq ((n+i:Nat):Int) 0 (-1) 0 f.body).length:Int)+1)∧FX n l=a++Sm.kq ((n+i:Nat):Int) 0 (-1) 0 f.body++e
 | [],n,h,hl,hh,_=>⟨[],[],by simp [Sh.go,FX],rfl,rfl,fun i f h=>by simp at h⟩
 | f::l,n,h,hl,hh,hi=>by
  simp only [List.map_cons,List.flatten_cons]at hi
  simp only [Sh.go,FX]
  have e1:=zr (n:Int) 0 (-1) 0 h.L f.body hi.left
  obtain⟨lo,ik,h2,h3,h4,h5⟩:=Mi l (n+1) ⟨Im.rows (n:Int) 0 (-1) 0 h.L f.body,h.lo++ [(h.L.length:Int)+1],h.hi++ [((Im.rows (n:Int) 0 (-1) 0 h.L f.body).length:Int)+1]⟩ (by simp [hl]) (by simp [hh]) (by
   show pG (Im.rows (n:Int) 0 (-1) 0 h.L f.body).length _
   rw [e1,List.length_append,J6];exact hi.right)
  refine⟨((h.L.length:Int)+1)::lo,(((Im.rows (n:Int) 0 (-1) 0 h.L f.body).length:Int)+1)::ik, ?_,by simp [h3],by simp [h4],fun i g ik=> ?_⟩
  ·rw [h2,e1];simp
  ·cases i with
   | zero=>
    simp only [List.getElem?_cons_zero,Option.some.injEq]at ik
    subst ik
    exact⟨[],FX (n+1) l,by simp,by rw [e1];simp,by simp⟩
   | succ i=>
    simp only [List.getElem?_cons_succ]at ik
    obtain⟨a,e,g1,g2,g3⟩:=h5 i g ik
    have en:n+1+i=n+(i+1):=by omega
    rw [en]at g2 g3
    refine⟨Sm.kq n 0 (-1) 0 f.body++a,e, ?_, ?_,by rw [g3];simp⟩
    ·rw [List.getElem?_cons_succ,g1,e1];simp
    ·rw [List.getElem?_cons_succ,g2,e1];simp
theorem aeg {p:Pg} (hb:p.may=true) {i:Nat} {f:Pc} (hf:p.procs[i]? = some f) (hs:Pc.aR p.procs<1000000000) (s:St) :
 aB Tryz.prog gS [.dG (iA p) 0, .int .i64 (i:Int)] s (.slice .shared 17 ((Sm.kq (i:Int) 0 (-1) 0 f.body).map fj)) s:=by
 obtain⟨lo,hi,h1,h2,h3,h4⟩:=Mi p.procs 0 ⟨[],[],[]⟩ rfl rfl (Zt hb)
 obtain⟨a,e,g1,g2,g3⟩:=h4 i f hf
 simp only [Nat.zero_add,List.nil_append]at g1 g2 g3 h1
 refine acW hs (a:=a) (e:=e) ?_ ?_ ?_ s
 ·show(Sh.go 0 ⟨[],[],[]⟩ p.procs).lo[i]? = _
  rw [h1];exact g1
 ·show(Sh.go 0 ⟨[],[],[]⟩ p.procs).hi[i]? = _
  rw [h1];exact g2
 ·show(Sh.go 0 ⟨[],[],[]⟩ p.procs).L=_
  rw [h1];exact g3
theorem aB.aqL {P:Program} {f:FuncId} {pre post:List D} {rows lq:List (List D)} {z z' k k':Nat} {b:Bool} (h:aB P f (pre++ .slice (.tok 0) z rows::post) ⟨[],[some k]⟩ (.tuple [.slice (.tok 0) z' lq, .bool b]) ⟨[],[some k']⟩)
 (hp:D.bp 0 0 pre=true) (ha:D.bp 0 0 post=true) (hw:D.gZ 0 0 rows=true) (Qx:D.gZ 0 0 lq=true)
 {s:St} {t:Nat} (ht:s.aA[t]? = some (some k)):aB P f (pre++ .slice (.tok t) z rows::post) s (.tuple [.slice (.tok t) z' lq, .bool b]) ⟨s.aw,s.aA.set t (some k')⟩:=by
 refine ew.frame [] [t] h (by simp) (by simp) (by simp) (by simpa using (List.getElem?_eq_some_iff.1 ht).1) rfl (fun i o' ds e1 e2=>by simp at e1) rfl (fun i t' e1=> ?_)
  ?_ ?_ ?_
 ·cases i with
  | zero=>simp at e1;subst e1;simp [ht]
  | succ i=>simp at e1
 ·have h1:=eZ [] [t] _ hp
  have h2:=eZ [] [t] _ ha
  rw [fR]at h1 h2
  simp [fR,D.cm,Tag.cm,h1,h2,iV _ _ _ hw]
 ·have h1:=ib (n':=0) (m':=1) (Nat.le_refl 0) (Nat.zero_le 1) _ hp
  have h2:=ib (n':=0) (m':=1) (Nat.le_refl 0) (Nat.zero_le 1) _ ha
  rw [xM]at h1 h2 ⊢
  simp only [List.length_nil,List.length_cons,List.all_append,h1,Bool.true_and,List.all_cons,h2,Bool.and_true,D.ok,Tag.ok,l7 (Nat.zero_le 0) (Nat.zero_le 1) _ hw]
  rfl
 ·rintro _ _ ⟨rfl,rfl⟩
  refine⟨by simp [D.back,D.cm,D.dY,Tag.cm,jn,iV _ _ _ Qx], ?_⟩
  simp [St.back,jO]
theorem aeh {seen l:List aD} (hl:seen.length+l.length<1000000000):aB Tryz.prog pN [.slice (.tok 0) 1 (seen.map encStr), .slice .shared 1 (l.map encStr)] ⟨[],[some seen.length]⟩
 (.tuple [.slice (.tok 0) 1 ((iK seen l).1.map encStr), .bool (iK seen l).2]) ⟨[],[some (iK seen l).1.length]⟩:=by
 generalize hR:iK seen l=R
 refine aB.go Hy rfl fun B Q hB hQ=> ?_
 have⟨hF,hP,gA,gB⟩:=bF
 repeat' (first
 | simp only [go_sem,hF,hP,gA,gB]
 | (with_reducible refine aC hQ ?_;simp only [ay,az,Option.some.injEq,exists_eq_left',go_sem,hF,hP,gA,gB];repeat' (first | exact Ok.out | with_reducible refine aH ?_ ?_ | (simp;done))))
 refine cO 0 1 (bh.ind (ι:=List aD×Nat×List aD×Nat) (fun i=>l.drop i.2.1=i.1∧iK i.2.2.1 i.1=R∧i.2.2.2=i.2.2.1.length∧i.2.2.1.length+i.1.length<1000000000) (fun i=>i.1.length)
  (fun i=> [(0, .slice (.tok 0) 1 (i.2.2.1.map encStr)),(8, .slice .shared 1 (l.map encStr)),(9, .int .i64 (l.length:Int)),(10, .int .i64 (i.2.1:Int))]) (fun i=>⟨[],[some i.2.2.2]⟩) ?_ (l,0,seen,seen.length) ⟨rfl,hR,rfl,hl⟩)
 clear hR
 rintro⟨rest,k,out,n⟩ ⟨h1,h2,h3,h4⟩ IH
 dsimp only at h1 h2 h3 h4
 subst h3
 cases rest with
 | nil=>
  have hF:=drop_nil h1
  simp only [iK]at h2
  subst h2
  repeat' (first
 | simp only [go_sem,hF,hP,gA,gB]
 | (with_reducible refine aC hQ ?_;simp only [ay,az,Option.some.injEq,exists_eq_left',go_sem,hF,hP,gA,gB];repeat' (first | exact Ok.out | with_reducible refine aH ?_ ?_ | (simp;done))))
 | cons x rest=>
  obtain⟨hP,g2,hF,g4⟩:=drop_cons h1
  have bW:k<4611686018427387904:=by omega
  simp only [List.length_cons]at h4
  have gA:(out.length+1)*17≤bl:=by unfold bl;omega
  have zZ:=fun g s=>jk (l:=out) (by omega) x g s
  simp only [iK]at h2
  rcases Bool.eq_false_or_eq_true (dX out x)with c1 | c1
  ·simp only [c1,if_true]at h2
   subst h2
   repeat' (first
 | simp only [go_sem,hF,hP,gA,gB,c1]
 | (with_reducible refine CU (zZ _ _) ?_)
 | (with_reducible refine aC hQ ?_;simp only [ay,az,Option.some.injEq,exists_eq_left',go_sem,hF,hP,gA,gB];repeat' (first | exact Ok.out | with_reducible refine aH ?_ ?_ | (simp;done))))
  ·simp only [c1,Bool.false_eq_true,if_false]at h2
   repeat' (first
 | simp only [go_sem,hF,hP,gA,gB,c1]
 | (with_reducible refine CU (zZ _ _) ?_)
 | (with_reducible refine aC hQ ?_;simp only [ay,az,Option.some.injEq,exists_eq_left',go_sem,hF,hP,gA,gB];repeat' (first | exact Ok.out | with_reducible refine aH ?_ ?_ | (simp;done))))
   refine dH 0 1 ?_ ?_ (IH (rest,k+1,out++ [x],out.length+1) ⟨g2,h2,by simp,by simp;omega⟩ (Nat.lt_succ_self _))
   ·(simp only [go_sem,hF,hP,gA,gB,aJ bW,List.map_append,List.map_cons,List.map_nil,encStr];try exact bH)
   ·(simp only [go_sem,hF,hP,gA,gB,aJ bW,List.map_append,List.map_cons,List.map_nil,encStr];try exact bH)
theorem SD {seen l:List aD} (hl:seen.length+l.length<1000000000) {s:St} {t:Nat} (ht:s.aA[t]? = some (some seen.length)):aB Tryz.prog pN [.slice (.tok t) 1 (seen.map encStr), .slice .shared 1 (l.map encStr)] s
 (.tuple [.slice (.tok t) 1 ((iK seen l).1.map encStr), .bool (iK seen l).2]) ⟨s.aw,s.aA.set t (some (iK seen l).1.length)⟩:=
 (aeh hl).aqL (pre:= []) (post:= [_]) rfl (by simp [D.bp,D.ok,Tag.ok,eD]) (eD _) (eD _) ht
end Go.Abs

/-! Jm2 -/

namespace Go.Abs
set_option maxRecDepth 8000
open Go.Proofs
theorem VU (x:Im):(fj x)[2]? = some (.slice .shared 1 (x.s.labels.map encStr)):=nd rfl
theorem SE (x:Im):(fj x)[3]? = some (.str x.s.name):=nd rfl
attribute [go_sem] VU SE
def rG (fin:List aD) (label:aD):List Sm→Int×Bool
 | []=>if dX fin label then(-1,true)else(0,false)
 | v::l=>if dX v.labels label then(v.id,true)else rG fin label l
theorem He (fin:List aD) (label:aD) : ∀ l:List Sm,(rG fin label l).2=dX (fl l++fin) label
 | []=>by simp only [rG,fl,List.nil_append];split <;> simp_all
 | v::l=>by
  simp only [rG,fl,List.append_assoc]
  have h:=He fin label l
  rw [Bool.eq_iff_iff,fF]at h
  split
  ·rename_i c
   exact((fF _ _).2 (List.mem_append.2 (.inl ((fF _ _).1 c)))).symm
  ·rename_i c
   have:label∉v.labels:=fun m=>c ((fF _ _).2 m)
   rw [Bool.eq_iff_iff,h,fF]
   exact⟨fun m=>List.mem_append.2 (.inr m),fun m=>(List.mem_append.1 m).resolve_left this⟩
theorem Kr {p:Pg} {v:Sm} (ho:p.kA) {f:Pc} (hf:f∈p.procs) (hv:v∈Sm.cD f.body):v.labels.length≤900000:=by
 have key : ∀ n:Nat,(∀ s:Sm,s.pre.length≤n→∀ v∈s.pre,v.labels.length≤s.size)∧(∀ l:List Sm,(Sm.cD l).length≤n→∀ v∈Sm.cD l,v.labels.length≤Sm.aR l):=by
  intro n
  induction n with
  | zero=>
   refine⟨fun s h=>by rw [Sm.Ek]at h;simp at h,fun l h v m=> ?_⟩
   have:=List.eq_nil_of_length_eq_zero (Nat.le_zero.1 h)
   rw [this]at m;cases m
  | succ n ih=>
   have h1 : ∀ s:Sm,s.pre.length≤n+1→∀ v∈s.pre,v.labels.length≤s.size:=by
    intro s h v m
    rw [Sm.Ek]at h m
    simp only [List.length_cons,List.length_append]at h
    obtain⟨id,kind,labels,name,proc,x,has,args,aQ,aM⟩:=s
    simp only [Sm.size]
    rcases List.mem_cons.1 m with rfl | m
    ·dsimp only;omega
    ·rcases List.mem_append.1 m with m | m
     ·have:=ih.2 aQ (by dsimp only at h;omega) v m;omega
     ·have:=ih.2 aM (by dsimp only at h;omega) v m;omega
   refine⟨h1,fun l=> ?_⟩
   induction l with
   | nil=>intro _ v m;cases m
   | cons s l Q6=>
    intro h v m
    simp only [Sm.cD,List.length_append]at h
    simp only [Sm.cD]at m
    simp only [Sm.aR]
    rcases List.mem_append.1 m with m | m
    ·have:=h1 s (by omega) v m;omega
    ·have:=Q6 (by omega) v m;omega
 have h1:=(key (Sm.cD f.body).length).2 f.body (Nat.le_refl _) v hv
 have h2:=Pc.bT hf
 have h3:=ho.procs.2.1
 simp only [Pc.size]at h2
 omega
theorem Hf {p:Pg} (ho:p.kA) {f:Pc} (hf:f∈p.procs):f.fin.length≤900000:=by
 have h2:=Pc.bT hf
 have h3:=ho.procs.2.1
 simp only [Pc.size]at h2
 omega
theorem EY {p:Pg} (ho:p.kA) {f:Pc} (hf:f∈p.procs):(Sm.cD f.body).length≤900000:=by
 rw [← zp]
 have:=kS f.body
 have h2:=Pc.bT hf
 have h3:=ho.procs.2.1
 simp only [Pc.size]at h2
 omega
theorem aqM {p:Pg} (ho:p.kA) (hb:p.may=true) {i:Nat} {f:Pc} (hf:p.procs[i]? = some f) (label:aD) (s:St) :
 aB Tryz.prog ra [.dG (iA p) 0, .int .i64 (i:Int), .str label] s (.tuple [.int .i64 (rG f.fin label (Sm.cD f.body)).1, .bool (rG f.fin label (Sm.cD f.body)).2]) s:=by
 refine aB.pure ?_ (by simp [D.bp,D.ok,zc]) rfl s
 obtain⟨tP,ta,zW⟩:=ho.procs
 have zX:=List.mem_of_getElem? hf
 have Eo:=fun s=>aeg hb hf (by omega) s
 have xi:=vy (i:Int) 0 (-1) 0 f.body
 have Ks:=EY ho zX
 have aqN:=Hf ho zX
 have Cu:=fun s=>rp (l:=f.fin) (by omega) label s
 have qz:i<p.procs.length:=(List.getElem?_eq_some_iff.1 hf).1
 generalize hI:Sm.kq (i:Int) 0 (-1) 0 f.body=I at *
 have hIl:I.length≤900000:=by rw [← xi,List.length_map]at Ks;exact Ks
 obtain⟨R,hR⟩ : ∃ R,rG f.fin label (Sm.cD f.body)=R:=⟨_,rfl⟩
 rw [hR]
 rw [← xi]at hR
 unfold S0
 refine aB.go B9 rfl fun B Q hB hQ=> ?_
 have⟨hF,hP,gA,gB⟩:=bF
 repeat' (first
 | simp only [go_sem,hF,hP,gA,gB]
 | (with_reducible refine CU (Eo _) ?_)
 | (with_reducible refine aC hQ ?_;simp only [ay,az,Option.some.injEq,exists_eq_left',go_sem,hF,hP,gA,gB];repeat' (first | exact Ok.out | with_reducible refine aH ?_ ?_ | (simp;done))))
 refine cO 0 0 (bh.ind (ι:=List Im×Nat) (fun j=>I.drop j.2=j.1∧rG f.fin label (j.1.map Im.s)=R) (fun j=>j.1.length)
  (fun j=> [(0, .dG (iA p) 0),(1, .int .i64 (i:Int)),(2, .str label),(12, .slice .shared 17 (I.map fj)),(13, .int .i64 (I.length:Int)),(14, .int .i64 (j.2:Int))]) (fun j=>⟨[],[]⟩) ?_ (I,0) ⟨rfl,hR⟩)
 clear hR
 rintro⟨rest,k⟩ ⟨h1,h2⟩ IH
 dsimp only at h1 h2
 cases rest with
 | nil=>
  have hF:=drop_nil h1
  simp only [List.map_nil,rG]at h2
  rcases Bool.eq_false_or_eq_true (dX f.fin label)with c1 | c1
  ·simp only [c1,if_true]at h2
   subst h2
   repeat' (first
 | simp only [go_sem,hF,hP,gA,gB,sd,hf,c1]
 | (with_reducible refine CU (Cu _) ?_)
 | (with_reducible refine aC hQ ?_;simp only [ay,az,Option.some.injEq,exists_eq_left',go_sem,hF,hP,gA,gB];repeat' (first | exact Ok.out | with_reducible refine aH ?_ ?_ | (simp;done))))
  ·simp only [c1,Bool.false_eq_true,if_false]at h2
   subst h2
   repeat' (first
 | simp only [go_sem,hF,hP,gA,gB,sd,hf,c1]
 | (with_reducible refine CU (Cu _) ?_)
 | (with_reducible refine aC hQ ?_;simp only [ay,az,Option.some.injEq,exists_eq_left',go_sem,hF,hP,gA,gB];repeat' (first | exact Ok.out | with_reducible refine aH ?_ ?_ | (simp;done))))
 | cons a rest=>
  obtain⟨hP,g2,hF,g4⟩:=drop_cons h1
  have bW:k<4611686018427387904:=by omega
  have GO:a.s∈Sm.cD f.body:=by rw [← xi];exact List.mem_map_of_mem (List.mem_of_getElem? hP)
  have qw:=fun s=>rp (l:=a.s.labels) (by have:=Kr ho zX GO;omega) label s
  simp only [List.map_cons,rG]at h2
  rcases Bool.eq_false_or_eq_true (dX a.s.labels label)with c1 | c1
  ·simp only [c1,if_true]at h2
   subst h2
   repeat' (first
 | simp only [go_sem,hF,hP,gA,gB,c1]
 | (with_reducible refine CU (qw _) ?_)
 | (with_reducible refine aC hQ ?_;simp only [ay,az,Option.some.injEq,exists_eq_left',go_sem,hF,hP,gA,gB];repeat' (first | exact Ok.out | with_reducible refine aH ?_ ?_ | (simp;done))))
  ·simp only [c1,Bool.false_eq_true,if_false]at h2
   repeat' (first
 | simp only [go_sem,hF,hP,gA,gB,c1]
 | (with_reducible refine CU (qw _) ?_)
 | (with_reducible refine aC hQ ?_;simp only [ay,az,Option.some.injEq,exists_eq_left',go_sem,hF,hP,gA,gB];repeat' (first | exact Ok.out | with_reducible refine aH ?_ ?_ | (simp;done))))
   refine dH 0 0 ?_ ?_ (IH (rest,k+1) ⟨g2,h2⟩ (Nat.lt_succ_self _))
   ·(simp only [go_sem,hF,hP,gA,gB,aJ bW];try exact bH)
   ·(simp only [go_sem,hF,hP,gA,gB,aJ bW];try exact bH)
theorem ZZ {p:Pg} (ho:p.kA) (hb:p.may=true) {i:Nat} {f:Pc} (hf:p.procs[i]? = some f) (m:Im) (hm:m.proc=(i:Int)) (s:St) :
 aB Tryz.prog u9 [.dG (iA p) 0, .agg (fj m)] s (.bool (kc f.labels m.s m.loop)) s:=by
 refine aB.pure ?_ (by simp [D.bp,D.ok,zc,O5]) rfl s
 have tR:=fun s=>aqM ho hb hf m.s.name s
 have aei:=He f.fin m.s.name (Sm.cD f.body)
 rw [← hm]at tR
 obtain⟨A,hA⟩ : ∃ A,rG f.fin m.s.name (Sm.cD f.body)=A:=⟨_,rfl⟩
 rw [hA]at tR aei
 obtain⟨R,hR⟩ : ∃ R,kc f.labels m.s m.loop=R:=⟨_,rfl⟩
 rw [hR]
 unfold kc Pc.labels at hR
 unfold S0
 rcases Bool.eq_false_or_eq_true (m.s.kind==7)with c1 | c1
 ·simp only [c1,Bool.true_or,if_true]at hR
  subst hR
  refine aB.go pd rfl fun B Q hB hQ=> ?_
  have⟨hF,hP,gA,gB⟩:=bF
  repeat' (first
 | simp only [go_sem,hF,hP,gA,gB,c1]
 | (with_reducible refine aC hQ ?_;simp only [ay,az,Option.some.injEq,exists_eq_left',go_sem,hF,hP,gA,gB];repeat' (first | exact Ok.out | with_reducible refine aH ?_ ?_ | (simp;done))))
 rcases Bool.eq_false_or_eq_true (m.s.kind==8)with c2 | c2
 ·simp only [c1,c2,Bool.or_true,if_true]at hR
  subst hR
  refine aB.go pd rfl fun B Q hB hQ=> ?_
  have⟨hF,hP,gA,gB⟩:=bF
  repeat' (first
 | simp only [go_sem,hF,hP,gA,gB,c1,c2]
 | (with_reducible refine aC hQ ?_;simp only [ay,az,Option.some.injEq,exists_eq_left',go_sem,hF,hP,gA,gB];repeat' (first | exact Ok.out | with_reducible refine aH ?_ ?_ | (simp;done))))
 rcases Bool.eq_false_or_eq_true (m.s.kind==10)with c3 | c3
 ·simp only [c1,c2,c3,Bool.or_self,Bool.false_eq_true,if_false,if_true, ← aei]at hR
  subst hR
  refine aB.go pd rfl fun B Q hB hQ=> ?_
  have⟨hF,hP,gA,gB⟩:=bF
  repeat' (first
 | simp only [go_sem,hF,hP,gA,gB,c1,c2,c3]
 | (with_reducible refine CU (tR _) ?_)
 | (with_reducible refine aC hQ ?_;simp only [ay,az,Option.some.injEq,exists_eq_left',go_sem,hF,hP,gA,gB];repeat' (first | exact Ok.out | with_reducible refine aH ?_ ?_ | (simp;done))))
 ·simp only [c1,c2,c3,Bool.or_self,Bool.false_eq_true,if_false]at hR
  subst hR
  refine aB.go pd rfl fun B Q hB hQ=> ?_
  have⟨hF,hP,gA,gB⟩:=bF
  repeat' (first
 | simp only [go_sem,hF,hP,gA,gB,c1,c2,c3]
 | (with_reducible refine aC hQ ?_;simp only [ay,az,Option.some.injEq,exists_eq_left',go_sem,hF,hP,gA,gB];repeat' (first | exact Ok.out | with_reducible refine aH ?_ ?_ | (simp;done))))
end Go.Abs
