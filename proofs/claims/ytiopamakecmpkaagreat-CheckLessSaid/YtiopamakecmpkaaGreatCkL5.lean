/-
  What is proved here: the statement CheckLessSaid: whatever the arguments, the law, called, gives true, and of what was there nothing turns.
  No conditions.
-/
import Derived.Test.YtiopamakecmpkaaGreatCkL4
import Derived.KernelRfl
import Derived.RowKit3
import Derived.Test.YtiopamakecmpkaaGreatRows
import Derived.WalkKit
import Derived.ProofKit
import Derived.OpenShut
import Derived.ShutString
import Derived.ChangeMaps5
import Derived.ChangeStays

set_option linter.unusedSimpArgs false
set_option linter.unusedVariables false

/-! Jm3 -/

namespace Go.Abs
set_option maxRecDepth 8000
open Go.Proofs
theorem Z0 {p:Pg} (h:p.kA) (ll:(p.scope.1==0)=true) (s:St):aB Tryz.prog q5 [.agg (bA p)] s (.dG (iA p) 0) s:=by
 refine aB.pure ?_ (by simp [D.bp,D.ok,gv]) (by simp [D.ok,zc]) s
 obtain⟨tP,ta,zW⟩:=h.procs
 have tO:=fun s=>vv h s
 have dI:=fun s=>Ej (p:=p) (by omega) s
 have b0:(p.scope.1 != 0) = !(p.scope.1==0):=rfl
 rw [ll]at b0
 unfold S0
 refine aB.go xU rfl fun B Q hB hQ=> ?_
 have⟨hF,hP,gA,gB⟩:=bF
 repeat' (first
 | simp only [go_sem,hF,hP,gA,gB,b0,Bool.not_true]
 | (with_reducible refine CU (tO _) ?_)
 | (with_reducible refine CU (dI _) ?_)
 | (with_reducible refine aC hQ ?_;simp only [ay,az,Option.some.injEq,exists_eq_left',go_sem,hF,hP,gA,gB];repeat' (first | exact Ok.out | with_reducible refine aH ?_ ?_ | (simp;done))))
theorem Z1 {p:Pg} (h:p.kA) (ll:(p.scope.1==0)=false) (s:St):aB Tryz.prog q5 [.agg (bA p)] s .eR s:=by
 refine aB.pure ?_ (by simp [D.bp,D.ok,gv]) rfl s
 have tO:=fun s=>vv h s
 have b0:(p.scope.1 != 0) = !(p.scope.1==0):=rfl
 rw [ll]at b0
 unfold S0
 refine aB.go xU rfl fun B Q hB hQ=> ?_
 have⟨hF,hP,gA,gB⟩:=bF
 repeat' (first
 | simp only [go_sem,hF,hP,gA,gB,b0,Bool.not_false]
 | (with_reducible refine CU (tO _) ?_)
 | (with_reducible refine aC hQ ?_;simp only [ay,az,Option.some.injEq,exists_eq_left',go_sem,hF,hP,gA,gB];repeat' (first | exact Ok.out | with_reducible refine aH ?_ ?_ | (simp;done))))
mutual
theorem VV {pr up next loop:Int} : ∀ (s:Sm) (m:Im),m∈s.vx pr up next loop→m.proc=pr
 | ⟨id,kind,labels,name,pc,x,has,args,aQ,aM⟩,m,h=>by
  simp only [Sm.vx]at h
  rcases List.mem_cons.1 h with rfl | h
  ·rfl
  ·rcases List.mem_append.1 h with h | h
   ·exact wG aQ m h
   ·exact wG aM m h
theorem wG {pr up next loop:Int} : ∀ (l:List Sm) (m:Im),m∈Sm.kq pr up next loop l→m.proc=pr
 | s::l,m,h=>by
  simp only [Sm.kq]at h
  rcases List.mem_append.1 h with h | h
  ·exact VV s m h
  ·exact wG l m h
end
theorem xw : ∀ a b:List Sm,fl (a++b)=fl a++fl b
 | [],b=>rfl
 | v::a,b=>by simp only [List.cons_append,fl,xw a b,List.append_assoc]
mutual
theorem Lr : ∀ s:Sm,(fl s.pre).length≤s.size
 | ⟨id,kind,labels,name,pc,x,has,args,aQ,aM⟩=>by
  have:=rH aQ;have:=rH aM
  simp only [Sm.pre,fl,xw,List.length_append,Sm.size];omega
theorem rH : ∀ l:List Sm,(fl (Sm.cD l)).length≤Sm.aR l
 | []=>Nat.le_refl _
 | s::l=>by
  have:=Lr s;have:=rH l
  simp only [Sm.cD,xw,List.length_append,Sm.aR];omega
end
theorem SF (seen l:List aD):(iK seen l).1.length≤seen.length+l.length:=(G7 l seen).2
theorem VW {p:Pg} (h:p.kA) (s:St):aB Tryz.prog u6 [.agg (bA p)] s (.agg [.int .i64 p.jump.1, .int .i64 p.jump.2]) s:=by
 refine aB.pure ?_ (by simp [D.bp,D.ok,gv]) rfl s
 obtain⟨tP,ta,zW⟩:=h.procs
 obtain⟨R,hR⟩ : ∃ R,p.jump=R:=⟨_,rfl⟩
 rw [hR]
 unfold Pg.jump at hR
 unfold S0
 rcases Bool.eq_false_or_eq_true (p.scope.1==0)with ll | ll
 case inr=>
  have hs:=fun s=>Z1 h ll s
  simp only [ll,Bool.false_eq_true,if_false]at hR
  subst hR
  refine aB.go xS rfl fun B Q hB hQ=> ?_
  have⟨hF,hP,gA,gB⟩:=bF
  repeat' (first
 | simp only [go_sem,hF,hP,gA,gB]
 | (with_reducible refine CU (hs _) ?_)
 | (with_reducible refine aC hQ ?_;simp only [ay,az,Option.some.injEq,exists_eq_left',go_sem,hF,hP,gA,gB];repeat' (first | exact Ok.out | with_reducible refine aH ?_ ?_ | (simp;done))))
 have hs:=fun s=>Z0 h ll s
 have hb:=Bk ll
 simp only [ll,if_true]at hR
 refine aB.go xS rfl fun B Q hB hQ=> ?_
 have⟨hF,hP,gA,gB⟩:=bF
 repeat' (first
 | simp only [go_sem,hF,hP,gA,gB]
 | (with_reducible refine CU (hs _) ?_)
 | (with_reducible refine aC hQ ?_;simp only [ay,az,Option.some.injEq,exists_eq_left',go_sem,hF,hP,gA,gB];repeat' (first | exact Ok.out | with_reducible refine aH ?_ ?_ | (simp;done))))
 refine cO 2 0 (bh.ind (ι:=List Pc×Nat) (fun i=>p.procs.drop i.2=i.1∧ym 7 (sM i.1)=R) (fun i=>i.1.length)
  (fun i=> [(1, .ptr 0 0),(2, .ptr 1 0),(3, .dG (iA p) 0),(16, .slice .shared 5 (p.procs.map bG)),(17, .int .i64 (p.procs.length:Int)),(18, .int .i64 (i.2:Int))]) (fun i=>⟨[bA p,[.int .i64 0, .int .i64 0]],[]⟩) ?_ (p.procs,0) ⟨rfl,hR⟩)
 clear hR
 rintro⟨rest,k⟩ ⟨h1,hR⟩ IH
 dsimp only at h1 hR
 cases rest with
 | nil=>
  have hF:=drop_nil h1
  simp only [sM,ym]at hR
  subst hR
  repeat' (first
 | simp only [go_sem,hF,hP,gA,gB]
 | (with_reducible refine aC hQ ?_;simp only [ay,az,Option.some.injEq,exists_eq_left',go_sem,hF,hP,gA,gB];repeat' (first | exact Ok.out | with_reducible refine aH ?_ ?_ | (simp;done))))
 | cons f rest=>
  obtain⟨hP,g2,hF,g4⟩:=drop_cons h1
  have bW:k<4611686018427387904:=by omega
  have zX:=List.mem_of_getElem? hP
  have Eo:=fun s=>aeg hb hP (by omega) s
  have xi:=vy (k:Int) 0 (-1) 0 f.body
  have Ct:=Vz (k:Int) f
  have O0:=fun m=>wG (pr:=(k:Int)) (up:=0) (next:= -1) (loop:=0) f.body m
  have Ks:=EY h zX
  have aqN:=Hf h zX
  have VX:(fl (Sm.cD f.body)).length≤900000:=by
   have h1:=rH f.body
   have h2:=Pc.bT zX
   simp only [Pc.size]at h2
   omega
  rw [← xi]at VX
  generalize hI:Sm.kq (k:Int) 0 (-1) 0 f.body=I at *
  have hIl:I.length≤900000:=by rw [← xi,List.length_map]at Ks;exact Ks
  simp only [sM, ← Ct]at hR
  obtain⟨J,hJ⟩ : ∃ J,sL f.labels f.fin [] (I.map Im.pair)=J:=⟨_,rfl⟩
  rw [hJ]at hR
  have hld:=fun(m:Im) (hm:m∈I) s=>ZZ h hb hP m (O0 m hm) s
  repeat' (first
 | simp only [go_sem,hF,hP,gA,gB]
 | (with_reducible refine CU (Eo _) ?_)
 | (with_reducible refine aC hQ ?_;simp only [ay,az,Option.some.injEq,exists_eq_left',go_sem,hF,hP,gA,gB];repeat' (first | exact Ok.out | with_reducible refine aH ?_ ?_ | (simp;done))))
  refine bh.l6 6 1 rfl ?_
  simp only [go_sem,hF,hP,gA,gB]
  refine cO 3 1 (bh.ind (ι:=List Im×Nat×List aD×Nat) (fun i=>I.drop i.2.1=i.1∧sL f.labels f.fin i.2.2.1 (i.1.map Im.pair)=J∧i.2.2.2=i.2.2.1.length∧i.2.2.1.length+(fl (i.1.map Im.s)).length≤900000) (fun i=>i.1.length)
   (fun i=> [(1, .ptr 0 0),(2, .ptr 1 0),(3, .dG (iA p) 0),(5, .ptr 2 0),(6, .slice (.tok 0) 1 (i.2.2.1.map encStr)),(16, .slice .shared 5 (p.procs.map bG)),(17, .int .i64 (p.procs.length:Int)),(18, .int .i64 (k:Int)),
    (25, .slice .shared 17 (I.map fj)),(26, .int .i64 (I.length:Int)),(27, .int .i64 (i.2.1:Int))]) (fun i=>⟨[bA p,[.int .i64 0, .int .i64 0],bG f],[some i.2.2.2]⟩) ?_ (I,0,[],0) ⟨rfl,hJ,rfl,by simpa using VX⟩)
  clear hJ
  rintro⟨qc,k2,seen,n2⟩ ⟨j1,j2,j3,j4⟩ Bb
  dsimp only at j1 j2 j3 j4
  subst j3
  cases qc with
  | nil=>
   have Db:=drop_nil j1
   simp only [List.map_nil,sL]at j2
   simp only [List.map_nil,fl,List.length_nil,Nat.add_zero]at j4
   have Hg:=fun {s:St} {t:Nat} (ht:s.aA[t]? = some (some seen.length))=>SD (seen:=seen) (l:=f.fin) (by omega) ht
   obtain⟨P1,hP1⟩ : ∃ P1,iK seen f.fin=P1:=⟨_,rfl⟩
   rw [hP1]at j2 Hg
   rcases Bool.eq_false_or_eq_true P1.2 with c1 | c1
   ·simp only [c1,if_true]at j2
    subst j2
    simp only at hR
    repeat' (first
 | simp only [go_sem,hF,hP,gA,gB,Db,c1,Bool.not_true]
 | (with_reducible refine CU (Hg (by with_unfolding_all rfl)) ?_)
 | (with_reducible refine aC hQ ?_;simp only [ay,az,Option.some.injEq,exists_eq_left',go_sem,hF,hP,gA,gB];repeat' (first | exact Ok.out | with_reducible refine aH ?_ ?_ | (simp;done))))
    refine dH 2 0 ?_ ?_ (IH (rest,k+1) ⟨g2,hR⟩ (Nat.lt_succ_self _))
    ·(simp only [go_sem,hF,hP,gA,gB,aJ bW];try exact bH)
    ·(simp only [go_sem,hF,hP,gA,gB,aJ bW];try exact bH)
   ·simp only [c1,Bool.false_eq_true,if_false]at j2
    subst j2
    simp only [ym]at hR
    subst hR
    repeat' (first
 | simp only [go_sem,hF,hP,gA,gB,Db,c1,Bool.not_false]
 | (with_reducible refine CU (Hg (by with_unfolding_all rfl)) ?_)
 | (with_reducible refine aC hQ ?_;simp only [ay,az,Option.some.injEq,exists_eq_left',go_sem,hF,hP,gA,gB];repeat' (first | exact Ok.out | with_reducible refine aH ?_ ?_ | (simp;done))))
  | cons m qc=>
   obtain⟨mh,j5,td,j6⟩:=drop_cons j1
   have qD:k2<4611686018427387904:=by omega
   have hmm:=List.mem_of_getElem? mh
   have XW:=fun s=>hld m hmm s
   simp only [List.map_cons,Im.pair,sL]at j2
   simp only [List.map_cons,fl,List.length_append]at j4
   have Hg:=fun {s:St} {t:Nat} (ht:s.aA[t]? = some (some seen.length))=>SD (seen:=seen) (l:=m.s.labels) (by omega) ht
   have LI:=SF seen m.s.labels
   obtain⟨P1,hP1⟩ : ∃ P1,iK seen m.s.labels=P1:=⟨_,rfl⟩
   rw [hP1]at j2 Hg LI
   rcases Bool.eq_false_or_eq_true P1.2 with c1 | c1
   ·rcases Bool.eq_false_or_eq_true (kc f.labels m.s m.loop)with c2 | c2
    ·simp only [c1,c2,if_true]at j2
     repeat' (first
 | simp only [go_sem,hF,hP,gA,gB,mh,td,c1,c2,Bool.not_true]
 | (with_reducible refine CU (Hg (by with_unfolding_all rfl)) ?_)
 | (with_reducible refine CU (XW _) ?_)
 | (with_reducible refine aC hQ ?_;simp only [ay,az,Option.some.injEq,exists_eq_left',go_sem,hF,hP,gA,gB];repeat' (first | exact Ok.out | with_reducible refine aH ?_ ?_ | (simp;done))))
     refine dH 3 1 ?_ ?_ (Bb (qc,k2+1,P1.1,P1.1.length) ⟨j5,j2,rfl,by dsimp only;omega⟩ (Nat.lt_succ_self _))
     ·(simp only [go_sem,hF,hP,gA,gB,aJ qD];try exact bH)
     ·(simp only [go_sem,hF,hP,gA,gB,aJ qD];try exact bH)
    ·simp only [c1,c2,if_true,Bool.false_eq_true,if_false]at j2
     subst j2
     simp only [ym]at hR
     subst hR
     repeat' (first
 | simp only [go_sem,hF,hP,gA,gB,mh,td,c1,c2,Bool.not_true,Bool.not_false]
 | (with_reducible refine CU (Hg (by with_unfolding_all rfl)) ?_)
 | (with_reducible refine CU (XW _) ?_)
 | (with_reducible refine aC hQ ?_;simp only [ay,az,Option.some.injEq,exists_eq_left',go_sem,hF,hP,gA,gB];repeat' (first | exact Ok.out | with_reducible refine aH ?_ ?_ | (simp;done))))
   ·simp only [c1,Bool.false_eq_true,if_false]at j2
    subst j2
    simp only [ym]at hR
    subst hR
    repeat' (first
 | simp only [go_sem,hF,hP,gA,gB,mh,td,c1,Bool.not_false]
 | (with_reducible refine CU (Hg (by with_unfolding_all rfl)) ?_)
 | (with_reducible refine CU (XW _) ?_)
 | (with_reducible refine aC hQ ?_;simp only [ay,az,Option.some.injEq,exists_eq_left',go_sem,hF,hP,gA,gB];repeat' (first | exact Ok.out | with_reducible refine aH ?_ ?_ | (simp;done))))
end Go.Abs

/-! Rj1 -/

namespace Go.Abs
set_option maxRecDepth 8000
open Go.Proofs
theorem VY (x:It):(fB x)[2]? = some (.slice .shared 1 (x.s.labels.map encStr)):=nd rfl
theorem SG (x:It):(fB x)[14]? = some (.int .i64 x.bO):=nd rfl
attribute [go_sem] VY SG
end Go.Abs

/-! Rj2 -/

namespace Go.Abs
set_option maxRecDepth 8000
open Go.Proofs
end Go.Abs

/-! Ck1 -/

namespace Go.Abs
set_option maxRecDepth 8000
open Go.Proofs
theorem Z2 : ∀ n,n<1000000000→∀ l:List Sm,Sm.aR l<n→aB Tryz.prog jT [.slice .shared 13 (l.map aU)] S0 (.int .i64 (Sm.dA l:Int)) S0:=by
 intro n
 induction n with
 | zero=>intro _ l h;omega
 | succ n ih=>
 intro hn l hv
 have hl:=Sm.cM l
 have hk : ∀ y∈l,(∀ s,aB Tryz.prog jT [.slice .shared 13 (y.aQ.map aU)] s (.int .i64 (Sm.dA y.aQ:Int)) s)∧(∀ s,aB Tryz.prog jT [.slice .shared 13 (y.aM.map aU)] s (.int .i64 (Sm.dA y.aM:Int)) s)∧
  y.fQ=1+Sm.dA y.aQ+Sm.dA y.aM:=fun y hy=>by
  have h1:=Sm.bT hy
  have dN:Sm.aR y.aQ<y.size∧Sm.aR y.aM<y.size∧y.fQ=1+Sm.dA y.aQ+Sm.dA y.aM:=by
   obtain⟨_,_,_,_,_,_,_,_,_,_⟩:=y
   simp only [Sm.size];exact⟨by omega,by omega,rfl⟩
  exact⟨fun s=>(ih (by omega) y.aQ (by omega)).pure (by simp only [D.bp,D.ok,Tag.ok,iH];rfl) rfl s,fun s=>(ih (by omega) y.aM (by omega)).pure (by simp only [D.bp,D.ok,Tag.ok,iH];rfl) rfl s,dN.2.2⟩
 have qS:=kS l
 unfold S0
 refine aB.go FD rfl fun B Q hB hQ=> ?_
 have⟨hF,hP,gA,gB⟩:=bF
 repeat' (first
 | simp only [go_sem,hF,hP,gA,gB]
 | (with_reducible refine aC hQ ?_;simp only [ay,az,Option.some.injEq,exists_eq_left',go_sem,hF,hP,gA,gB];repeat' (first | exact Ok.out | with_reducible refine aH ?_ ?_ | (simp;done))))
 refine cO 0 0 (bh.ind (ι:=List Sm×Nat×Nat) (fun i=>l.drop i.2.1=i.1∧i.2.2+Sm.dA i.1=Sm.dA l+i.1.length) (fun i=>i.1.length)
  (fun i=> [(0, .slice .shared 13 (l.map aU)),(3, .int .i64 (i.2.2:Int)),(7, .slice .shared 13 (l.map aU)),(8, .int .i64 (l.length:Int)),(9, .int .i64 (i.2.1:Int))]) (fun i=>⟨[],[]⟩) ?_ (l,0,l.length) ⟨rfl,Nat.add_comm _ _⟩)
 rintro⟨rest,k,c⟩ ⟨g1,g2⟩ IH
 dsimp only at g1 g2
 cases rest with
 | nil=>
  have hF:=drop_nil g1
  simp only [Sm.dA,Nat.add_zero,List.length_nil]at g2
  subst g2
  repeat' (first
 | simp only [go_sem,hF,hP,gA,gB]
 | (with_reducible refine aC hQ ?_;simp only [ay,az,Option.some.injEq,exists_eq_left',go_sem,hF,hP,gA,gB];repeat' (first | exact Ok.out | with_reducible refine aH ?_ ?_ | (simp;done))))
 | cons y rest=>
  obtain⟨hP,g3,hF,g4⟩:=drop_cons g1
  obtain⟨hy1,hy2,hy3⟩:=hk y (List.mem_of_getElem? hP)
  simp only [Sm.dA,List.length_cons]at g2
  have AB:=Sm.bT (List.mem_of_getElem? hP)
  have Lw:rest.length≤l.length:=by have:=congrArg List.length g1;simp only [List.length_drop,List.length_cons]at this;omega
  have w1:IntKind.wrap .i64 ((k:Int)+1)=((k+1:Nat):Int):=by rw [cV] <;> omega
  have w2:IntKind.wrap .i64 ((Sm.dA y.aQ:Int)+(Sm.dA y.aM:Int))=((Sm.dA y.aQ+Sm.dA y.aM:Nat):Int):=by rw [cV] <;> omega
  have w3:IntKind.wrap .i64 ((c:Int)+((Sm.dA y.aQ+Sm.dA y.aM:Nat):Int))=((c+(Sm.dA y.aQ+Sm.dA y.aM):Nat):Int):=by rw [cV] <;> omega
  repeat' (first
 | simp only [go_sem,hF,hP,gA,gB,w1,w2,w3]
 | (with_reducible refine CU (hy1 _) ?_)
 | (with_reducible refine CU (hy2 _) ?_)
 | (with_reducible refine aC hQ ?_;simp only [ay,az,Option.some.injEq,exists_eq_left',go_sem,hF,hP,gA,gB];repeat' (first | exact Ok.out | with_reducible refine aH ?_ ?_ | (simp;done))))
  refine cO 0 0 (IH (rest,k+1,c+(Sm.dA y.aQ+Sm.dA y.aM)) ⟨g3,by dsimp only;omega⟩ (Nat.lt_succ_self _))
theorem Z3 {l:List Sm} (h:Sm.aR l+1<1000000000) (s:St):aB Tryz.prog jT [.slice .shared 13 (l.map aU)] s (.int .i64 (Sm.dA l:Int)) s:=
 (Z2 _ h l (Nat.lt_succ_self _)).pure (by simp only [D.bp,D.ok,Tag.ok,iH];rfl) rfl s
def Pc.od:List Pc→Nat
 | []=>0
 | f::l=>Sm.dA f.body+Pc.od l
theorem F0 : ∀ l:List Pc,Pc.od l≤Pc.aR l
 | []=>Nat.le_refl _
 | f::l=>by
  have:=F0 l;have:=kS f.body
  simp only [Pc.od,Pc.aR,Pc.size];omega
theorem F1 {p:Pg} (h:p.size+1<1000000000) (s:St):aB Tryz.prog oO [.agg (bA p)] s (.int .i64 (Pc.od p.procs:Int)) s:=by
 refine aB.pure ?_ (by simp [D.bp,D.ok,gv]) rfl s
 have hs:Pc.aR p.procs+1<1000000000:=by simp only [Pg.size]at h;omega
 have hl:=Pc.cM p.procs
 have Cy:=F0 p.procs
 unfold S0
 refine aB.go FA rfl fun B Q hB hQ=> ?_
 have⟨hF,hP,gA,gB⟩:=bF
 repeat' (first
 | simp only [go_sem,hF,hP,gA,gB]
 | (with_reducible refine aC hQ ?_;simp only [ay,az,Option.some.injEq,exists_eq_left',go_sem,hF,hP,gA,gB];repeat' (first | exact Ok.out | with_reducible refine aH ?_ ?_ | (simp;done))))
 refine cO 1 0 (bh.ind (ι:=List Pc×Nat×Nat) (fun i=>p.procs.drop i.2.1=i.1∧i.2.2+Pc.od i.1=Pc.od p.procs) (fun i=>i.1.length)
  (fun i=> [(1, .ptr 0 0),(3, .int .i64 (i.2.2:Int)),(7, .slice .shared 5 (p.procs.map bG)),(8, .int .i64 (p.procs.length:Int)),(9, .int .i64 (i.2.1:Int))]) (fun i=>⟨[bA p],[]⟩) ?_ (p.procs,0,0) ⟨rfl,Nat.zero_add _⟩)
 rintro⟨rest,k,c⟩ ⟨g1,g2⟩ IH
 dsimp only at g1 g2
 cases rest with
 | nil=>
  have hF:=drop_nil g1
  simp only [Pc.od,Nat.add_zero]at g2
  subst g2
  repeat' (first
 | simp only [go_sem,hF,hP,gA,gB]
 | (with_reducible refine aC hQ ?_;simp only [ay,az,Option.some.injEq,exists_eq_left',go_sem,hF,hP,gA,gB];repeat' (first | exact Ok.out | with_reducible refine aH ?_ ?_ | (simp;done))))
 | cons f rest=>
  obtain⟨hP,g3,hF,g4⟩:=drop_cons g1
  have hsf:=Pc.bT (List.mem_of_getElem? hP)
  simp only [Pc.size]at hsf
  have hc:=fun s=>Z3 (l:=f.body) (by omega) s
  simp only [Pc.od]at g2
  have w1:IntKind.wrap .i64 ((k:Int)+1)=((k+1:Nat):Int):=by rw [cV] <;> omega
  have w2:IntKind.wrap .i64 ((c:Int)+(Sm.dA f.body:Int))=((c+Sm.dA f.body:Nat):Int):=by rw [cV] <;> omega
  repeat' (first
 | simp only [go_sem,hF,hP,gA,gB,w1,w2]
 | (with_reducible refine CU (hc _) ?_)
 | (with_reducible refine aC hQ ?_;simp only [ay,az,Option.some.injEq,exists_eq_left',go_sem,hF,hP,gA,gB];repeat' (first | exact Ok.out | with_reducible refine aH ?_ ?_ | (simp;done))))
  refine cO 1 0 (IH (rest,k+1,c+Sm.dA f.body) ⟨g3,by dsimp only;omega⟩ (Nat.lt_succ_self _))
theorem VZ {p:Pg} (h:p.may=false):p.scope=(1,0):=by unfold Pg.scope;rw [h];rfl
theorem Kt {p:Pg} (h:p.kA) (s:St):aB Tryz.prog pK [.agg (bA p)] s (.agg [.int .i64 p.check.1, .int .i64 p.check.2]) s:=by
 refine aB.pure ?_ (by simp [D.bp,D.ok,gv]) rfl s
 have h1:=fun s=>Rn h.Vo s
 rw [FV]at h1
 have h2:=fun s=>vv h s
 have h3:=fun s=>JV h s
 have h4:=fun s=>VW h s
 have h5:=fun s=>R5 h s
 obtain⟨R,hR⟩ : ∃ R,p.check=R:=⟨_,rfl⟩
 rw [hR]
 unfold Pg.check at hR
 unfold S0
 rcases Bool.eq_false_or_eq_true p.may with b0 | b0
 case inr=>
  have e:((1:Int)==0)=false:=rfl
  rw [VZ b0]at hR
  simp only [e,Bool.false_eq_true,if_false]at hR
  subst hR
  refine aB.go nW rfl fun B Q hB hQ=> ?_
  have⟨hF,hP,gA,gB⟩:=bF
  repeat' (first
 | simp only [go_sem,hF,hP,gA,gB,b0,Bool.not_false]
 | (with_reducible refine CU (h1 _) ?_)
 | (with_reducible refine aC hQ ?_;simp only [ay,az,Option.some.injEq,exists_eq_left',go_sem,hF,hP,gA,gB];repeat' (first | exact Ok.out | with_reducible refine aH ?_ ?_ | (simp;done))))
 rcases Bool.eq_false_or_eq_true (p.scope.1==0)with b1 | b1
 case inr=>
  simp only [b1,Bool.false_eq_true,if_false]at hR
  subst hR
  refine aB.go nW rfl fun B Q hB hQ=> ?_
  have⟨hF,hP,gA,gB⟩:=bF
  repeat' (first
 | simp only [go_sem,hF,hP,gA,gB,b0,b1,Bool.not_true]
 | (with_reducible refine CU (h1 _) ?_)
 | (with_reducible refine CU (h2 _) ?_)
 | (with_reducible refine aC hQ ?_;simp only [ay,az,Option.some.injEq,exists_eq_left',go_sem,hF,hP,gA,gB];repeat' (first | exact Ok.out | with_reducible refine aH ?_ ?_ | (simp;done))))
 simp only [b1,if_true]at hR
 rcases Bool.eq_false_or_eq_true (p.arity.1==0)with b2 | b2
 case inr=>
  simp only [b2,Bool.false_eq_true,if_false]at hR
  subst hR
  refine aB.go nW rfl fun B Q hB hQ=> ?_
  have⟨hF,hP,gA,gB⟩:=bF
  repeat' (first
 | simp only [go_sem,hF,hP,gA,gB,b0,b1,b2,Bool.not_true]
 | (with_reducible refine CU (h1 _) ?_)
 | (with_reducible refine CU (h2 _) ?_)
 | (with_reducible refine CU (h3 _) ?_)
 | (with_reducible refine aC hQ ?_;simp only [ay,az,Option.some.injEq,exists_eq_left',go_sem,hF,hP,gA,gB];repeat' (first | exact Ok.out | with_reducible refine aH ?_ ?_ | (simp;done))))
 simp only [b2,if_true]at hR
 rcases Bool.eq_false_or_eq_true (p.jump.1==0)with b3 | b3
 case inr=>
  simp only [b3,Bool.false_eq_true,if_false]at hR
  subst hR
  refine aB.go nW rfl fun B Q hB hQ=> ?_
  have⟨hF,hP,gA,gB⟩:=bF
  repeat' (first
 | simp only [go_sem,hF,hP,gA,gB,b0,b1,b2,b3,Bool.not_true]
 | (with_reducible refine CU (h1 _) ?_)
 | (with_reducible refine CU (h2 _) ?_)
 | (with_reducible refine CU (h3 _) ?_)
 | (with_reducible refine CU (h4 _) ?_)
 | (with_reducible refine aC hQ ?_;simp only [ay,az,Option.some.injEq,exists_eq_left',go_sem,hF,hP,gA,gB];repeat' (first | exact Ok.out | with_reducible refine aH ?_ ?_ | (simp;done))))
 simp only [b3,if_true]at hR
 subst hR
 refine aB.go nW rfl fun B Q hB hQ=> ?_
 have⟨hF,hP,gA,gB⟩:=bF
 repeat' (first
 | simp only [go_sem,hF,hP,gA,gB,b0,b1,b2,b3,Bool.not_true]
 | (with_reducible refine CU (h1 _) ?_)
 | (with_reducible refine CU (h2 _) ?_)
 | (with_reducible refine CU (h3 _) ?_)
 | (with_reducible refine CU (h4 _) ?_)
 | (with_reducible refine CU (h5 _) ?_)
 | (with_reducible refine aC hQ ?_;simp only [ay,az,Option.some.injEq,exists_eq_left',go_sem,hF,hP,gA,gB];repeat' (first | exact Ok.out | with_reducible refine aH ?_ ?_ | (simp;done))))
theorem Ku {p:Pg} (h:p.kA) (s:St):aB Tryz.prog pL [.agg (bA p)] s (.bool (p.check.1==0)) s:=by
 refine aB.pure ?_ (by simp [D.bp,D.ok,gv]) rfl s
 have h1:=fun s=>Kt h s
 unfold S0
 refine aB.go Ht rfl fun B Q hB hQ=> ?_
 have⟨hF,hP,gA,gB⟩:=bF
 repeat' (first
 | simp only [go_sem,hF,hP,gA,gB]
 | (with_reducible refine CU (h1 _) ?_)
 | (with_reducible refine aC hQ ?_;simp only [ay,az,Option.some.injEq,exists_eq_left',go_sem,hF,hP,gA,gB];repeat' (first | exact Ok.out | with_reducible refine aH ?_ ?_ | (simp;done))))
end Go.Abs

/-! LsP -/

namespace Go.Abs
mutual
theorem ahg (deep bO:Int) (aM:Bool) : ∀ s:Sm,(∀ i∈s.nc deep bO aM,i.deep≤12∧i.s.one=true)→s.yo deep
 | ⟨id,kind,labels,name,proc,x,has,args,aQ,e⟩,h=>by
  simp only [Sm.nc]at h
  obtain⟨h1,h2⟩:=h _ (List.mem_cons_self ..)
  exact⟨h2,h1,EZ _ _ _ aQ fun i m=>h i (List.mem_cons_of_mem _ (List.mem_append_left _ m)),EZ _ _ _ e fun i m=>h i (List.mem_cons_of_mem _ (List.mem_append_right _ m))⟩
theorem EZ (deep bO:Int) (aM:Bool) : ∀ l:List Sm,(∀ i∈Sm.oY deep bO aM l,i.deep≤12∧i.s.one=true)→Sm.xq deep l
 | [],_=>trivial
 | s::l,h=>by
  simp only [Sm.oY]at h
  exact⟨ahg _ _ _ s fun i m=>h i (List.mem_append_left _ m),EZ _ _ _ l fun i m=>h i (List.mem_append_right _ m)⟩
end
mutual
theorem Z4 : ∀ s:Sm,s.pre.length=s.fQ
 | ⟨id,kind,labels,name,proc,x,has,args,aQ,e⟩=>by simp only [Sm.pre,Sm.fQ,List.length_cons,List.length_append,zB aQ,zB e];omega
theorem zB : ∀ l:List Sm,(Sm.cD l).length=Sm.dA l
 | []=>rfl
 | s::l=>by simp only [Sm.cD,Sm.dA,List.length_append,Z4 s,zB l]
end
theorem Hh : ∀ {l:List Pc},Pc.lQ l=true→∀ f∈l,isName f.name=true∧f.params.length≤8∧f.vars.length≤16∧dk f.vars=true∧dk f.fin=true∧Pm.eA f.params=true
 | a::l,h,f,m=>by
  simp only [Pc.lQ]at h
  split at h
  ·cases h
  split at h
  ·cases h
  rename_i h1 h2
  simp only [Bool.or_eq_true,Bool.not_eq_true',not_or,Bool.not_eq_false,decide_eq_true_eq]at h1 h2
  rcases List.mem_cons.1 m with rfl | m
  ·exact⟨h1.1.1.1.1,by omega,by omega,h1.1.2,h1.2,h2⟩
  ·exact Hh h f m
structure Pg.Ya (p:Pg):Prop where
 yY:dk p.globals=true
 Ib:(p.globals.length:Int)≤16
 procs : ∀ f∈p.procs,f.yo
 Yb:p.procs.length≤16
 ow:Pc.ow p.procs≤200
theorem Mj : ∀ l:List Pc,(l.map fun f=>Sm.oY 1 0 false f.body).flatten.length=Pc.ow l
 | []=>rfl
 | f::l=>by
  have h:(Sm.oY 1 0 false f.body).length=Sm.dA f.body:=by rw [← zB, ← EA 1 0 false f.body,List.length_map]
  simp only [List.map_cons,List.flatten_cons,List.length_append,Mj l,Pc.ow,h]
theorem Hi : ∀ (l:List It) (n:Nat),It.eA n l=true→∀ i∈l,i.deep≤12∧i.s.one=true
 | a::l,n,h,i,m=>by
  simp only [It.eA]at h
  split at h
  ·cases h
  rename_i h1
  simp only [Bool.or_eq_true,Bool.not_eq_true',not_or,Bool.not_eq_false,decide_eq_true_eq]at h1
  rcases List.mem_cons.1 m with rfl | m
  ·exact⟨by omega,h1.2⟩
  ·exact Hi l _ h i m
theorem Z5 {p:Pg} (h:p.may=true):p.Ya:=by
 obtain⟨e1,e2⟩:=Zq h
 obtain⟨a1,a2⟩:=yi h
 have a3:=Hi _ _ a2
 have ht:Pc.ow p.procs=p.all.length:=by rw [e2,Mj]
 unfold Pg.may at h
 split at h
 ·cases h
 split at h
 ·cases h
 rename_i c1 c2
 simp only [Bool.or_eq_true,Bool.not_eq_true',not_or,Bool.not_eq_false,decide_eq_true_eq]at c1 c2
 refine⟨c1.2,by omega,fun f hf=> ?_,by omega,by omega⟩
 obtain⟨g1,g2,g3,g4,g5,g6⟩:=Hh c2 f hf
 refine⟨g1,⟨g6,g2⟩,⟨g4,by omega⟩,g5,EZ 1 0 false f.body fun i m=>a3 i ?_⟩
 rw [e2]
 exact List.mem_flatten.2 ⟨_,List.mem_map_of_mem hf,m⟩
theorem Pg.Ya.may {p:Pg} (h:p.Ya):p.number.may=true:=(Po h.yY h.Ib h.procs h.Yb h.ow).1
theorem Di : ∀ l:List Pc,Pc.ow l=Pc.od l
 | []=>rfl
 | f::l=>by simp only [Pc.ow,Pc.od,Di l]
mutual
theorem V0 (b:Bool) (n:Nat) : ∀ s:Sm,((Sm.num b n s).1).fQ=s.fQ
 | ⟨id,kind,labels,name,proc,x,has,args,aQ,e⟩=>by simp only [Sm.num,Sm.fQ,wH b _ aQ,wH b _ e]
theorem wH (b:Bool) (n:Nat) : ∀ l:List Sm,Sm.dA (Sm.cE b n l).1=Sm.dA l
 | []=>rfl
 | s::l=>by simp only [Sm.cE,Sm.dA,V0 b n s,wH b _ l]
end
theorem Kv : ∀ (l:List Pc) (n:Nat),Pc.ow (Pc.cE n l)=Pc.ow l
 | [],_=>rfl
 | f::l,n=>by simp only [Pc.cE,Pc.ow,wH,Kv l]
mutual
theorem V1 (b:Bool) (n:Nat) : ∀ s:Sm,((Sm.num b n s).1).size=s.size
 | ⟨id,kind,labels,name,proc,x,has,args,aQ,e⟩=>by simp only [Sm.num,Sm.size,wI b _ aQ,wI b _ e]
theorem wI (b:Bool) (n:Nat) : ∀ l:List Sm,Sm.aR (Sm.cE b n l).1=Sm.aR l
 | []=>rfl
 | s::l=>by simp only [Sm.cE,Sm.aR,V1 b n s,wI b _ l]
end
theorem E0 : ∀ (l:List Pc) (n:Nat),Pc.aR (Pc.cE n l)=Pc.aR l
 | [],_=>rfl
 | f::l,n=>by simp only [Pc.cE,Pc.aR,Pc.size,wI,E0 l]
theorem Pg.Kw (p:Pg):p.number.size=p.size:=by simp only [Pg.number,Pg.size,E0]
mutual
theorem aek (b c:Bool) (n:Nat) : ∀ s:Sm,((Sm.num b n s).1).cp c=s.cp c
 | ⟨id,kind,labels,name,proc,x,has,args,aQ,e⟩=>by simp only [Sm.num,Sm.cp,B1 b _ _ aQ,B1 b _ _ e];rfl
theorem B1 (b c:Bool) (n:Nat) : ∀ l:List Sm,Sm.kB c (Sm.cE b n l).1=Sm.kB c l
 | []=>rfl
 | s::l=>by simp only [Sm.cE,Sm.kB,aek b c n s,B1 b c _ l]
end
theorem SH {g f:Pc} (h1:g.name=f.name) (h2:g.params=f.params) (h3:g.vars=f.vars) (h4:g.fin=f.fin) (h:g.kB=f.kB):Pc.Part g f:=
 ⟨h1,h2,h3,h4,by rw [h];exact List.Sublist.refl _,fun c _ _ m=>by rw [px,h,h4, ← px];exact m⟩
def aqQ (n:Nat):List Pc→List (Pc×Pc)
 | []=> []
 | f::l=>({f with body:=(Sm.cE true n f.body).1},f)::aqQ (Sm.cE true n f.body).2 l
mutual
theorem ael (id:Int) (b:Bool) : ∀ s:Sm,List.Sublist ((s.iO id).cp b) (s.cp b)
 | ⟨i,kind,labels,name,proc,x,has,args,aQ,e⟩=>by
  simp only [Sm.iO,Sm.cp]
  exact List.Sublist.cons_cons _ (List.Sublist.append (uJ id _ aQ) (uJ id _ e))
theorem uJ (id:Int) (b:Bool) : ∀ l:List Sm,List.Sublist (Sm.kB b (Sm.iR id l)) (Sm.kB b l)
 | []=>List.Sublist.refl _
 | s::l=>by
  simp only [Sm.iR,Sm.kB]
  split
  ·exact(uJ id b l).trans (List.sublist_append_right _ _)
  ·exact List.Sublist.append (ael id b s) (uJ id b l)
end
mutual
theorem aem (id deep:Int) : ∀ s:Sm,s.yo deep→(s.iO id).yo deep
 | ⟨i,kind,labels,name,proc,x,has,args,aQ,e⟩,h=>by
  obtain⟨h1,h2,h3,h4⟩:=h
  refine⟨?_,h2,yr id _ aQ h3,yr id _ e h4⟩
  have l1:=Dh id aQ
  have l2:=Dh id e
  have key : ∀ (a b:Nat),a≤b→∀ c:Bool,(((b:Int)==0) || c)=true→(((a:Int)==0) || c)=true:=fun a b RH c hc=>by
   cases c with
   | true=>simp
   | false=>simp at hc ⊢;omega
  unfold Sm.one at h1 ⊢
  simp only [Sm.wS,Sm.hasName,Sm.pJ]at h1 ⊢
  split at h1
  ·cases h1
  rename_i c1
  rw [if_neg c1]
  split at h1
  ·cases h1
  rename_i c2
  rw [if_neg c2]
  split at h1
  ·cases h1
  rename_i c3
  rw [if_neg c3]
  split at h1
  ·cases h1
  rename_i c4
  rw [if_neg c4]
  simp only [Bool.and_eq_true]at h1 ⊢
  refine⟨?_,key _ _ l2 _ h1.2⟩
  rw [Bool.or_assoc]at h1 ⊢
  exact key _ _ l1 _ h1.1
theorem yr (id deep:Int) : ∀ l:List Sm,Sm.xq deep l→Sm.xq deep (Sm.iR id l)
 | [],_=>trivial
 | s::l,h=>by
  simp only [Sm.iR]
  split
  ·exact yr id deep l h.2
  ·exact⟨aem id deep s h.1,yr id deep l h.2⟩
end
mutual
theorem Z6 (id:Int) (b:Bool) {v:Sm} (hv:v.id≠id) : ∀ s:Sm,s.id≠id→(∀ u∈s.pre,u.id=id→u.aQ = []∧u.aM = [])→v∈s.pre→v.core∈((s.iO id).cp b).map Prod.fst
 | ⟨i,kind,labels,name,proc,x,has,args,aQ,e⟩,hs,h,m=>by
  simp only [Sm.pre,List.mem_cons,List.mem_append]at m h
  simp only [Sm.iO,Sm.cp,List.map_cons,List.map_append,List.mem_cons,List.mem_append]
  rcases m with rfl | m | m
  ·exact .inl rfl
  ·exact .inr (.inl (zC id _ hv aQ (fun u hu=>h u (.inr (.inl hu))) m))
  ·exact .inr (.inr (zC id _ hv e (fun u hu=>h u (.inr (.inr hu))) m))
theorem zC (id:Int) (b:Bool) {v:Sm} (hv:v.id≠id) : ∀ l:List Sm,(∀ u∈Sm.cD l,u.id=id→u.aQ = []∧u.aM = [])→v∈Sm.cD l→v.core∈(Sm.kB b (Sm.iR id l)).map Prod.fst
 | [],_,m=>by cases m
 | s::l,h,m=>by
  simp only [Sm.cD,List.mem_append]at m h
  have hl:=zC id b hv l (fun u hu=>h u (.inr hu))
  simp only [Sm.iR]
  by_cases hs:(s.id==id)=true
  ·rw [if_pos hs]
   rcases m with m | m
   ·exfalso
    have la:s.id=id:=by simpa using hs
    obtain⟨i,kind,labels,name,proc,x,has,args,aQ,e⟩:=s
    have su:(⟨i,kind,labels,name,proc,x,has,args,aQ,e⟩:Sm)∈(⟨i,kind,labels,name,proc,x,has,args,aQ,e⟩:Sm).pre:=by simp only [Sm.pre];exact List.mem_cons_self ..
    obtain⟨h1,h2⟩:=h _ (.inl su) la
    dsimp only at h1 h2 la
    subst h1 h2
    simp only [Sm.pre,Sm.cD,List.append_nil,List.mem_singleton]at m
    subst m
    exact hv la
   ·exact hl m
  ·rw [if_neg hs]
   simp only [Sm.kB,List.map_append,List.mem_append]
   rcases m with m | m
   ·exact .inl (Z6 id b hv s (by simpa using hs) (fun u hu=>h u (.inl hu)) m)
   ·exact .inr (hl m)
end
mutual
theorem Z7 (id:Int) : ∀ s:Sm,s.id≠id→(∀ u∈s.pre,u.id=id→u.aQ = []∧u.aM = [])→(s.iO id).fQ+(s.pre.filter fun u=>u.id==id).length=s.fQ
 | ⟨i,kind,labels,name,proc,x,has,args,aQ,e⟩,hs,h=>by
  simp only [Sm.pre,List.mem_cons,List.mem_append]at h
  have hi:(i==id)=false:=by simpa using hs
  have h1:=zD id aQ (fun u hu=>h u (.inr (.inl hu)))
  have h2:=zD id e (fun u hu=>h u (.inr (.inr hu)))
  simp only [Sm.iO,Sm.fQ,Sm.pre,List.filter_cons,hi,Bool.false_eq_true,if_false,List.filter_append,List.length_append]
  omega
theorem zD (id:Int) : ∀ l:List Sm,(∀ u∈Sm.cD l,u.id=id→u.aQ = []∧u.aM = [])→Sm.dA (Sm.iR id l)+((Sm.cD l).filter fun u=>u.id==id).length=Sm.dA l
 | [],_=>rfl
 | s::l,h=>by
  simp only [Sm.cD,List.mem_append]at h
  have hl:=zD id l (fun u hu=>h u (.inr hu))
  simp only [Sm.iR,Sm.cD,List.filter_append,List.length_append,Sm.dA]
  by_cases hs:(s.id==id)=true
  ·rw [if_pos hs]
   have la:s.id=id:=by simpa using hs
   obtain⟨i,kind,labels,name,proc,x,has,args,aQ,e⟩:=s
   have su:(⟨i,kind,labels,name,proc,x,has,args,aQ,e⟩:Sm)∈(⟨i,kind,labels,name,proc,x,has,args,aQ,e⟩:Sm).pre:=by simp only [Sm.pre];exact List.mem_cons_self ..
   obtain⟨h1,h2⟩:=h _ (.inl su) la
   dsimp only at h1 h2 la
   subst h1 h2 la
   simp only [Sm.pre,Sm.cD,List.append_nil,Sm.fQ,Sm.dA,List.filter_cons,List.filter_nil,BEq.rfl,if_true,List.length_singleton]at hl ⊢
   omega
  ·rw [if_neg hs]
   have:=Z7 id s (by simpa using hs) (fun u hu=>h u (.inl hu))
   simp only [Sm.dA]
   omega
end
theorem Pc.Part.trans {g f e:Pc} (h:Pc.Part g f) (k:Pc.Part f e):Pc.Part g e:=
 ⟨h.name.trans k.name,h.params.trans k.params,h.vars.trans k.vars,h.fin.trans k.fin,h.sub.trans k.sub,fun c hc hk hn=>h.VJ c hc hk (k.VJ c (h.sub.subset hc) hk hn)⟩
def By (id:Int) (n:Nat):List Pc→List (Pc×Pc)
 | []=> []
 | f::l=>({f with body:=(Sm.cE true n (Sm.iR id f.body)).1},f)::By id (Sm.cE true n (Sm.iR id f.body)).2 l
theorem SI (id:Int) : ∀ (l:List Pc) (n:Nat),(By id n l).map Prod.fst=Pc.cE n (l.map (Pc.iO id))
 | [],_=>rfl
 | f::l,n=>by simp only [By,List.map_cons,Pc.cE,SI id l,Pc.iO]
theorem SJ (id:Int) : ∀ (l:List Pc) (n:Nat),(By id n l).map Prod.snd=l
 | [],_=>rfl
 | f::l,n=>by simp only [By,List.map_cons,SJ id l]
theorem Hj (id:Int) : ∀ (l:List Pc) (n:Nat),(∀ f∈l,Pc.Part (f.iO id) f)→∀ x∈By id n l,Pc.Part x.1 x.2
 | f::l,n,h,x,m=>by
  simp only [By]at m
  rcases List.mem_cons.1 m with rfl | m
  ·exact(SH (g:= {f with body:=(Sm.cE true n (Sm.iR id f.body)).1}) (f:=f.iO id) rfl rfl rfl rfl (B1 true false n (Sm.iR id f.body))).trans (h f (List.mem_cons_self ..))
  ·exact Hj id l _ (fun g hg=>h g (List.mem_cons_of_mem _ hg)) x m
theorem PC {p:Pg} (h:p.Right) (id:Int) (fW : ∃ v∈p.pre,v.id=id) (Yc : ∀ v∈p.pre,v.id=id→v.aQ = []∧v.aM = []) (L8 : ∀ v∈p.pre,v.kind=10→∀ u∈p.pre,u.id=id→v.name∉u.labels) :
 (p.iO id).number.Right∧Pc.od (p.iO id).number.procs+1=Pc.od p.procs:=by
 have ho:=Z5 h.may
 have Ig : ∀ f∈p.procs,∀ v∈Sm.cD f.body,v∈p.pre:=fun f hf v m=>by
  simp only [Pg.pre,List.mem_flatten,List.mem_map];exact⟨_,⟨f,hf,rfl⟩,m⟩
 have part : ∀ f∈p.procs,Pc.Part (f.iO id) f:=fun f hf=>by
  refine⟨rfl,rfl,rfl,rfl,uJ id false f.body,fun c hc hk hn=> ?_⟩
  have hcm:c.1∈f.kB.map Prod.fst:=List.mem_map_of_mem ((uJ id false f.body).subset hc)
  have e:f.kB.map Prod.fst=(Sm.cD f.body).map Sm.core:=si false f.body
  rw [e]at hcm
  obtain⟨g,hg,eg⟩:=List.mem_map.1 hcm
  have hgk:g.kind=10:=by rw [← oZ,eg];exact hk
  have hgn:g.name=c.1.name:=by rw [← eg];rfl
  rw [px,e,xr]at hn
  rw [px]
  rcases List.mem_append.1 hn with hn | hn
  ·obtain⟨v,hv,hl⟩:=zw.1 hn
   have hvi:v.id≠id:=fun ev=>L8 g (Ig f hf g hg) hgk v (Ig f hf v hv) ev (by rw [hgn];exact hl)
   have:=zC id false hvi f.body (fun u hu=>Yc u (Ig f hf u hu)) hv
   exact List.mem_append_left _ (zw.2 ⟨v.core,this,hl⟩)
  ·exact List.mem_append_right _ hn
 have aqR:Pc.ow (p.iO id).procs+1=Pc.ow p.procs:=by
  have gen : ∀ l:List Pc,(∀ f∈l,∀ u∈Sm.cD f.body,u.id=id→u.aQ = []∧u.aM = [])→Pc.ow (l.map (Pc.iO id))+(((l.map fun f=>Sm.cD f.body).flatten).filter fun u=>u.id==id).length=Pc.ow l:=by
   intro l
   induction l with
   | nil=>intro _;rfl
   | cons f l ih=>
    intro hl
    have h1:=ih fun g m=>hl g (List.mem_cons_of_mem _ m)
    have h2:=zD id f.body (hl f (List.mem_cons_self ..))
    simp only [List.map_cons,Pc.ow,List.flatten_cons,List.filter_append,List.length_append,Pc.iO]at h1 h2 ⊢
    omega
  have h1:=gen p.procs fun f hf u hu=>Yc u (Ig f hf u hu)
  have h2:((p.pre.filter fun u=>u.id==id).length)=1:=by
   obtain⟨v,hv,uc⟩:=fW
   obtain⟨i,hi⟩:=List.getElem?_of_mem hv
   have qV : ∀ (j:Nat) (u:Sm),p.pre[j]? = some u→u.id=((j+1:Nat):Int):=fun j u hu=>Bj h.may hu
   generalize p.pre=L at *
   have e0:=qV i v hi
   have split:L=L.take i++v::L.drop (i+1):=by
    have h3:=(List.getElem?_eq_some_iff.1 hi)
    obtain⟨h3,h4⟩:=h3
    rw [← h4,List.getElem_cons_drop,List.take_append_drop]
   have f1:(L.take i).filter (fun u=>u.id==id) = []:=by
    rw [List.filter_eq_nil_iff]
    intro u hu
    obtain⟨j,hj⟩:=List.getElem?_of_mem hu
    rw [List.getElem?_take]at hj
    split at hj
    ·have:=qV j u hj
     simp;omega
    ·cases hj
   have f2:(L.drop (i+1)).filter (fun u=>u.id==id) = []:=by
    rw [List.filter_eq_nil_iff]
    intro u hu
    obtain⟨j,hj⟩:=List.getElem?_of_mem hu
    rw [List.getElem?_drop]at hj
    have:=qV _ u hj
    simp;omega
   rw [split,List.filter_append,List.filter_cons,if_pos (by simpa using uc),f1,f2]
   rfl
  unfold Pg.pre at h2
  rw [h2]at h1
  exact h1
 have aqS:(p.iO id).Ya:=⟨ho.yY,ho.Ib,fun f m=>by
  obtain⟨g,hg,rfl⟩:=List.mem_map.1 m
  have:=ho.procs g hg
  exact⟨this.name,this.params,this.vars,this.fin,yr id 1 g.body this.body⟩,by simpa [Pg.iO]using ho.Yb,by have:=ho.ow;omega⟩
 refine⟨Pq h aqS.may ⟨rfl,By id 0 p.procs,(SI id _ _).symm,by rw [SJ],Hj id _ _ part⟩, ?_⟩
 show Pc.od (Pc.cE 0 (p.iO id).procs)+1=_
 rw [← Di, ← Di,Kv];exact aqR
end Go.Abs

/-! Tot -/

namespace Go.Abs
def Tt {α:Type} (o:Option α) (Q:α→Prop):Prop:=∃ a,o=some a∧Q a
structure Rd.Ok (r:Rd):Prop where
 k : ∀ t∈r.l,0≤t.kind∧t.kind≤4
 lt:r.i<r.l.length
 len:r.l.length≤2001
 last : ∀ t,r.l[r.l.length - 1]? = some t→t.kind=0
 n1:r.n≤201
structure Rd.To (r r':Rd):Prop where
 ok:r'.Ok
 l:r'.l=r.l
 i:r.i≤r'.i
 g:r'.good=true→r.good=true
 s:r.good=false→r'=r
structure Rd.ToE (r r':Rd):Prop where
 to:r.To r'
 n:r'.n=r.n
def ExT (r:Rd) (p:Ex×Rd):Prop:=r.ToE p.2∧(p.2.good=true→p.1.size+3+4*r.i≤4*p.2.i)
end Go.Abs

/-! Tot2 -/

namespace Go.Abs
def StT (r:Rd) (p:Sm×Rd):Prop:=r.ToE p.2∧(p.2.good=true→p.1.size+1+8*r.i≤8*p.2.i)
end Go.Abs

/-! Tot3 -/

namespace Go.Abs
structure StQ (r r':Rd):Prop where
 to:r.To r'
 n:r'.good=true→r'.n≤200
def ax5 (r:Rd) (p:(List Sm×List aD)×Rd):Prop:=StQ r p.2∧(p.2.good=true→Sm.aR p.1.1+p.1.2.length+8*r.i≤8*p.2.i)
def ax6 (t:fH):Prop:=1≤t.kind∧t.kind≤4
def Yd:Nat:=20000
end Go.Abs

/-! Parsed2 -/

namespace Go.Abs
open Go.Proofs
theorem Kx:EE Yd source=some (pw,0,0):=by kernel_rfl
theorem PD:source.length<4611686018427387904:=by simp [source]
theorem Hk:Nat.ble (pw.size+1) 1000=true:=by kernel_rfl
theorem PE:pw.size<1073741824:=Nat.lt_of_lt_of_le (Nat.le_of_ble_eq_true Hk) (Nat.le_of_ble_eq_true rfl)
end Go.Abs

/-! RefLex2 -/

namespace Go.Abs
set_option maxRecDepth 8000
open Go.Proofs
def aqT:Int→aD→Int
 | n,[]=>n
 | n,c::r=>aqT (n*10+((c.toNat:Int) - 48)) r
def aqU:fH:=⟨0,[],0,0⟩
def ayJ (x:fH ⊕ Int):fH×Int:=
 match x with
 | .inl t=>(t,0)
 | .inr e=>(aqU,e)
end Go.Abs

/-! RefLex3 -/

namespace Go.Abs
set_option maxRecDepth 8000
open Go.Proofs
end Go.Abs

/-! Ref4 -/

namespace Go.Abs
set_option maxRecDepth 8000
open Go.Proofs
def ayK (s:aD):aD:=s.take (min s.length 100100)
end Go.Abs

/-! Ref5 -/

namespace Go.Abs
set_option maxRecDepth 8000
open Go.Proofs
def Rd.axF (n:Nat) (l:List aD) (gw:Int) (r:Rd):Option (List aD×Rd):=
 (r.take [44]).bind fun q=>if !q.1 then(q.2.want [59]).bind fun r=>some (l,r)else Rd.names n l gw q.2
def aen (s:aD):Bool:=s == [105,102] || s == [119,104,105,108,101] || s == [98,114,101,97,107] || s == [99,111,110,116,105,110,117,101] || s == [114,101,116,117,114,110] || s == [103,111,116,111] || s == [114,101,97,100] || s == [112,114,105,110,116]
def Rd.Ye (m:Nat) (r:Rd):Option (List Ar×Rd):=
 (r.want [40]).bind fun r=>(r.take [41]).bind fun q=>
  if q.1 then some ([],q.2)
  else if q.2.good then(Rd.yK m m [] q.2).bind fun x=>(x.2.want [41]).bind fun r=>some (x.1,r)
  else some ([],q.2)
end Go.Abs

/-! Ref6 -/

namespace Go.Abs
set_option maxRecDepth 8000
open Go.Proofs
def Rd.rm (m:Nat) (name:aD) (r:Rd):Option (Sm×Rd):=
 (r.isO [40]).bind fun b=>
  if b then(Rd.Ye m r).bind fun q=>some (⟨0,4,[],[],name,nu,false,q.1,[],[]⟩,q.2)
  else(r.want [61]).bind fun r=>(r.ahead [40]).bind fun b=>
   if b then(r.name true).bind fun y=>(Rd.Ye m y.2).bind fun q=>some (⟨0,4,[],name,y.1,nu,false,q.1,[],[]⟩,q.2)
   else(Rd.whole m r).bind fun y=>some (⟨0,1,[],name,[],y.1,false,[],[],[]⟩,y.2)
def ayL (p:Sm×Rd):Option (Sm×Rd):=(p.2.want [59]).bind fun r=>some (p.1,r)
end Go.Abs

/-! Ref7 -/

namespace Go.Abs
set_option maxRecDepth 8000
open Go.Proofs
def cN (r:Rd):D:=match r.good with | true=> .int .i64 r.n | false=> .junk
instance (r:Rd):Cell (cN r):=by
 unfold cN
 cases r.good
 ·exact inferInstanceAs (Cell .junk)
 ·exact inferInstanceAs (Cell (.int .i64 _))
def stD (g:Bool) (v:Sm):List D:=match g with | true=>aU v | false=> [.junk, .junk, .junk, .junk, .junk, .junk, .junk, .junk, .junk, .junk, .junk, .junk, .junk]
def TW (l:List fH):Prop:=∀ t∈l,t.kind=4→aen t.text=false
abbrev axI (m n:Nat):Prop:=∀ {k:Int} {z:D} [Cell z] {r r1:Rd} {p:(List Sm×List aD)×Rd},r.want [123] = some r1→Rd.rows m n k false r1=some p→TW r.l→(r1.good=true→z = .int .i64 r1.n)→(r1.good=true→r1.n≤200)→
 ∀ {s:St} {o:Nat},s.aw[o]? = some (wc z r)→
 aB Tryz.prog Fu [.ptr o 0, .int .i64 k, .bool false] s (.tuple [.slice .shared 13 ((Sm.cE true r1.n p.1.1).1.map aU), .slice .shared 1 (p.1.2.map encStr)]) ⟨s.aw.set o (wc (cN p.2) p.2),s.aA⟩
abbrev aq3 (m n:Nat):Prop:=∀ {nest:Int} {labels:List aD} {r:Rd} {p:Sm×Rd},Rd.stmt m n nest r=some p→r.good=true→TW r.l→r.n≤200→
 ∀ {s:St} {o:Nat},s.aw[o]? = some (wc (.int .i64 r.n) r)→
 aB Tryz.prog Hq [.ptr o 0, .slice .shared 1 (labels.map encStr), .int .i64 nest] s (.agg (stD p.2.good (Sm.num true r.n {p.1 with labels:=labels}).1)) ⟨s.aw.set o (wc (cN p.2) p.2),s.aA⟩
end Go.Abs

/-! Ref8 -/

namespace Go.Abs
set_option maxRecDepth 8000
open Go.Proofs
end Go.Abs

/-! Ref9 -/

namespace Go.Abs
set_option maxRecDepth 8000
open Go.Proofs
def Rd.ax7 (m:Nat) (r:Rd):Option (Pc×Rd):=
 (r.name true).bind fun x=>(x.2.want [40]).bind fun r=>(r.take [41]).bind fun q=>
  if q.1 then(q.2.want [123]).bind fun r=>Rd.yL m x.1 [] r
  else if q.2.good then(Rd.params m [] q.2).bind fun y=>(y.2.want [41]).bind fun r=>(r.want [123]).bind fun r=>Rd.yL m x.1 y.1 r
  else Rd.yL m x.1 [] q.2
end Go.Abs

/-! Ref10 -/

namespace Go.Abs
set_option maxRecDepth 8000
open Go.Proofs
def Pc.fQ (n:Nat):List Pc→Nat
 | []=>n
 | f::l=>Pc.fQ (Sm.cE true n f.body).2 l
end Go.Abs

/-! Glue2 -/

namespace Go.Abs
def M0:Map:=⟨fun _ _=>none,fun _=>(0, .any),fun _=>none⟩
def Kept (w w':World):Prop:=w.keptBut w' (fun _=>False)∧∀ a:Addr,a.block<w.heap.size→w'.frozen? a=w.frozen? a
theorem Kept.frame {w w':World} (h:Kept w w') (may:MemPlace→Prop):w.keptBut w' may:=World.keptBut_mono (fun _ f=>f.elim) h.1
theorem Ext.aeo {M M':Map} {s':St} {w w':World} (e:Ext M S0 w M' s' w'):Kept w w':=by
 have hh : ∀ b,b<w.heap.size→w'.heap[b]? = w.heap[b]? :=fun b hb=>
  e.kept b hb (fun o ho=>by simp [S0]at ho) (fun t c z hl=>by obtain⟨n,hn⟩:=hl;simp [S0]at hn)
 refine⟨⟨e.os,e.output,fun i hi=> ?_⟩,fun a ha=> ?_⟩
 ·rw [hh i hi]
  exact(World.keptBut_refl w (fun _=>False)).2.2 i hi
 ·simp only [World.frozen?,hh _ ha]
theorem aqV (G:Nat→Nat→Option Value) (w:World) (h : ∀ b o v,G b o=some v→w.cell? ⟨b,o,none⟩=some v∧v.oneCell'=true):Rel ⟨G,fun _=>(0, .any),fun _=>none⟩ S0 w:=
 ⟨h,fun o ds e=>by simp [S0]at e,fun o ho=>by simp [S0]at ho,fun o o' ho=>by simp [S0]at ho,fun t n e=>by simp [S0]at e,
  fun t b c z o hl=>by obtain⟨n,hn⟩:=hl;simp [S0]at hn,fun t t' b c z c' z' hl=>by obtain⟨n,hn⟩:=hl;simp [S0]at hn⟩
def PF (w:World):Prop:=∀ g cs,aay g=some cs→∃ T fr,w.heap[g]? = some (.cells cs T fr)
theorem ahh (G:Nat→Nat→Option Value) {w:World} (h:PF w):Laid ⟨G,fun _=>(0, .any),fun _=>none⟩ S0 w:=
 fun g cs hg=>⟨h g cs hg,fun o ho=>by simp [S0]at ho,fun t c z hl=>by obtain⟨n,hn⟩:=hl;simp [S0]at hn⟩
theorem SK {P:Program} {f:FuncId} {args:List D} {gi:Array Value} {w:World} {G:Nat→Nat→Option Value} (h:ew P f args S0 fun d _=>d = .bool true)
 (hG : ∀ b o v,G b o=some v→w.cell? ⟨b,o,none⟩=some v∧v.oneCell'=true) (hl:gi.size=args.length)
 (ha : ∀ (i:Nat) (d:D) (v:Value),args[i]? = some d→gi[i]? = some v→RD ⟨G,fun _=>(0, .any),fun _=>none⟩ S0 d v) (j9:PF w) :
 Calls P f gi w fun e w'=>e = .returned (.bool true)∧Kept w w':=by
 refine(h _ w gi (aqV G w hG) (ahh G j9) hl ha).mono fun e w' hw=> ?_
 obtain⟨M',d,v,s',rfl,rfl,he,_,hv⟩:=hw
 rw [hv.nB]
 exact⟨rfl,he.aeo⟩
section
variable {P:Program} {H:Type} {enc:TypeId×Value→H}
theorem Ky {f:Func} {s:ChangeSpec} {apart fresh handsOn again:Bool} {W W':World} {args:Array Value} {v:Value} {ds gs:List (DataW H)} {before pa pv:List MemPlace}
 (hW:DataW.Whole enc P f.params.toList s.vars apart W args.toList ds gs before)
 (PA : ∀ (b:Nat) (sp:Nat→Bool) (hd:Bool),DataW.TrodAll enc P W' b sp hd f.resultTypes.toList (v.resultList f.resultTypes.size) (s.fn H (ds++gs)).results [])
 (HV : ∀ sp:Nat→Bool,(∀ p∈before,sp p.block=true)→DataW.TrodAll enc P W' 0 sp true f.params.toList args.toList (s.fn H (ds++gs)).args pa)
 (E1 : ∀ sp:Nat→Bool,(∀ p∈before,sp p.block=true)→DataW.TrodVars enc P W' sp s.vars (s.fn H (ds++gs)).vars pv)
 (ta:before=pa++pv) (hk:Kept W W')
 (Ck : ∀ (j:Nat) (t:TypeId) (r:Value),f.resultTypes[j]? = some t→(v.resultList f.resultTypes.size)[j]? = some r→Value.okWide P W' .any 0 t r) :
 s.post enc P f apart fresh handsOn again W args v W':=by
 have hF : ∀ p∈before,p.block<W.heap.size:=fun p hp=>hW.lt p hp
 have hold : ∀ p∈before,(fun b=>decide (b<W.heap.size)) p.block=true:=fun p hp=>by simpa using hF p hp
 refine⟨ds,gs,before,[],pa,pv,hW,PA _ _ _,HV _ hold,E1 _ hold,World.keptBut_mono (fun p hp=>⟨hp, ?_⟩) (hk.frame (· ∈before)),fun _=> ?_⟩
 ·rw [ta,List.mem_append]at hp
  exact Or.inr hp
 ·obtain⟨_,_,_,_,_,hz,hn⟩:=hW
  refine⟨Ck,_,_,([]++pa)++pv,⟨[]++pa,pv,ChangeShapes.trodAll_append (HV _ (fun _ _=>rfl)) (PA _ _ _),E1 _ (fun _ _=>rfl),rfl, ?_, ?_⟩, ?_⟩
  ·intro b off hp
   have mB:MemPlace.cell b off∈before:=by rw [ta];simpa using hp
   rw [hk.2 _ (hF _ mB)]
   exact hz b off mB
  ·intro ha
   have:=hn ha
   rw [ta]at this
   simpa using this
  ·intro p hp _
   rw [ta]
   simpa using hp
end
end Go.Abs

/-! LawAll -/

namespace Go.Abs
open Go.Proofs
def NW (t:fH):Prop:=t.kind=4→aen t.text=false
end Go.Abs

/-! Ck2 -/

namespace Go.Abs
set_option maxRecDepth 8000
open Go.Proofs
def E2 (p:Pg) (c vW:Int):Pg×Int×Int:=if c==0 then(if p.check.1==0 then(p,0,0)else(DM,p.check))else(DM,c,vW)
theorem aac {T:aD} {p:Pg} {c vW:Int} (h:EE Yd T=some (p,c,vW)) (hm:c=0→p.may=true∧vW=0) (hp:p.size<100000) (hl:T.length<4611686018427387904) (s:St) :
 aB Tryz.prog u5 [.str T] s (.tuple [.agg (bA (E2 p c vW).1), .agg (mW (E2 p c vW).2)]) s:=by
 refine aB.pure ?_ rfl (by simp [D.bp,D.ok,gv,mW]) s
 have h1:=fun s=>YtiopamakecmpkaaGreat h hl s
 have e0:bA DM = [.slice .shared 1 [], .slice .shared 5 []]:=rfl
 unfold S0
 unfold E2
 have b0:(c != 0) = !(c==0):=rfl
 rcases Bool.eq_false_or_eq_true (c==0)with b1 | b1
 case inr=>
  simp only [b1,Bool.false_eq_true,if_false]
  rw [b1]at b0
  refine aB.go sa rfl fun B Q hB hQ=> ?_
  have⟨hF,hP,gA,gB⟩:=bF
  repeat' (first
 | simp only [go_sem,hF,hP,gA,gB,b1,b0,Bool.not_false,mW,e0]
 | (with_reducible refine CU (h1 _) ?_)
 | (with_reducible refine aC hQ ?_;simp only [ay,az,Option.some.injEq,exists_eq_left',go_sem,hF,hP,gA,gB];repeat' (first | exact Ok.out | with_reducible refine aH ?_ ?_ | (simp;done))))
 have hc:c=0:=by simpa using b1
 subst hc
 obtain⟨PG,hf⟩:=hm rfl
 subst hf
 have ho:p.kA:=⟨wj PG (by omega),by omega⟩
 have h2:=fun s=>Kt ho s
 have b3:(p.check.1 != 0) = !(p.check.1==0):=rfl
 simp only [b1,if_true]
 rcases Bool.eq_false_or_eq_true (p.check.1==0)with b2 | b2
 case inr=>
  simp only [b2,Bool.false_eq_true,if_false]
  rw [b2]at b3
  refine aB.go sa rfl fun B Q hB hQ=> ?_
  have⟨hF,hP,gA,gB⟩:=bF
  repeat' (first
 | simp only [go_sem,hF,hP,gA,gB,b1,b3,Bool.not_false,mW,e0]
 | (with_reducible refine CU (h1 _) ?_)
 | (with_reducible refine CU (h2 _) ?_)
 | (with_reducible refine aC hQ ?_;simp only [ay,az,Option.some.injEq,exists_eq_left',go_sem,hF,hP,gA,gB];repeat' (first | exact Ok.out | with_reducible refine aH ?_ ?_ | (simp;done))))
 simp only [b2,if_true]
 rw [b2]at b3
 refine aB.go sa rfl fun B Q hB hQ=> ?_
 have⟨hF,hP,gA,gB⟩:=bF
 repeat' (first
 | simp only [go_sem,hF,hP,gA,gB,b1,b3,Bool.not_true,mW]
 | (with_reducible refine CU (h1 _) ?_)
 | (with_reducible refine CU (h2 _) ?_)
 | (with_reducible refine aC hQ ?_;simp only [ay,az,Option.some.injEq,exists_eq_left',go_sem,hF,hP,gA,gB];repeat' (first | exact Ok.out | with_reducible refine aH ?_ ?_ | (simp;done))))
theorem Cz:pw.check=(0,0):=by decide +kernel
theorem SL:Pc.od pw.procs=8:=by decide +kernel
theorem SM:DM.check=(5,0):=by decide +kernel
theorem SN (s:St):aB Tryz.prog qZ [] s (.bool true) s:=by
 refine aB.pure ?_ rfl rfl s
 have dN:=PE
 have PX:pw.size<100000:=by have:=Nat.le_of_ble_eq_true Hk;omega
 have PG:pw.may=true:=by decide +kernel
 have ho:pw.kA:=⟨wj PG (by omega),by omega⟩
 have h1:=fun s=>aac Kx (fun _=>⟨PG,rfl⟩) PX PD s
 have e:E2 pw 0 0=(pw,0,0):=by unfold E2;rw [Cz];rfl
 rw [e]at h1
 have h2:=fun s=>Ku ho s
 rw [Cz]at h2
 have h3:=fun s=>F1 (p:=pw) (by omega) s
 rw [SL]at h3
 have z0:((0:Int)==0)=true:=rfl
 have z8:(((8:Nat):Int)==8)=true:=rfl
 have z5:((5:Int)==5)=true:=rfl
 have h4':=fun s=>(Kt adJ s).LU (d:= .agg [.slice .full 0 [], .slice .full 0 []]) (Wk.agg (.cons (Wk.nil _ _ _) (.cons (Wk.nil _ _ _) .nil)))
 simp only [SM]at h4'
 unfold S0
 refine aB.go B4 rfl fun B Q hB hQ=> ?_
 have⟨hF,hP,gA,gB⟩:=bF
 repeat' (first
 | simp only [go_sem,hF,hP,gA,gB,z0,z8,z5,mW]
 | (with_reducible refine CU (VF _) ?_)
 | (with_reducible refine CU (adI _) ?_)
 | (with_reducible refine CU (h1 _) ?_)
 | (with_reducible refine CU (h2 _) ?_)
 | (with_reducible refine CU (h3 _) ?_)
 | (with_reducible refine CU (h4' _) ?_)
 | (with_reducible refine aC hQ ?_;simp only [ay,az,Option.some.injEq,exists_eq_left',go_sem,hF,hP,gA,gB];repeat' (first | exact Ok.out | with_reducible refine aH ?_ ?_ | (simp;done))))
end Go.Abs

/-! LawCk2 -/

namespace Go.Abs
set_option maxRecDepth 8000
open Go.Proofs
mutual
theorem V2 {v:Sm} : ∀ s:Sm,v∈s.pre→v.labels.length≤s.size
 | ⟨id,kind,labels,name,proc,x,has,args,aQ,aM⟩,m=>by
  rw [Sm.Ek]at m
  simp only [Sm.size]
  rcases List.mem_cons.1 m with rfl | m
  ·dsimp only;omega
  ·rcases List.mem_append.1 m with m | m
   ·have:=wJ aQ m;omega
   ·have:=wJ aM m;omega
theorem wJ {v:Sm} : ∀ l:List Sm,v∈Sm.cD l→v.labels.length≤Sm.aR l
 | s::l,m=>by
  simp only [Sm.cD]at m
  simp only [Sm.aR]
  rcases List.mem_append.1 m with m | m
  ·have:=V2 s m;omega
  ·have:=wJ l m;omega
end
theorem aad {p:Pg} {v:Sm} (h:v∈p.pre):v.labels.length≤p.size:=by
 simp only [Pg.pre,List.mem_flatten,List.mem_map]at h
 obtain⟨l,⟨f,hf,rfl⟩,m⟩:=h
 have h1:=wJ f.body m
 have h2:=Pc.bT hf
 simp only [Pc.size]at h2
 unfold Pg.size
 omega
theorem V3 {p:Pg} (h:p.Right):p.procs≠ []:=fun e=>by
 have:=h.main
 simp [Pg.oX,Pg.find,e,jl]at this
theorem HR (p:Pg) (n:Int) (s:St):aB Tryz.prog tY [.agg (bA p), .int .i64 n] s (.bool true) s:=by
 refine aB.pure ?_ (by simp [D.bp,D.ok,gv]) rfl s
 have h1:=fun s=>SN s
 have h2:=fun s=>adD p s
 unfold S0
 rcases Bool.eq_false_or_eq_true (decide (p.BS≤20000))with hw | hw
 case inr=>
  simp only [hw]at h2
  refine aB.go iC rfl fun B Q hB hQ=> ?_
  have⟨hF,hP,gA,gB⟩:=bF
  repeat' (first
 | simp only [go_sem,hF,hP,gA,gB]
 | (with_reducible refine CU (h1 _) ?_)
 | (with_reducible refine CU (h2 _) ?_)
 | (with_reducible first | refine bq fun hc=> ?_ | refine br fun hc=> ?_ | refine bt (fun hc=> ?_) fun hc=> ?_) <;> (try simp only [hc,bs, ↓reduceIte]at h) <;> try simp only [hc]
 | (with_reducible refine aC hQ ?_;exact jR)
 | (cases h;replace h:=hr;clear hr;(try simp only [bs, ↓reduceIte]at h))
 | (cases h;done))
 simp only [hw]at h2
 obtain⟨dN,ahi⟩:=Pk (of_decide_eq_true hw)
 have ho:p.kA:=⟨ahi,by omega⟩
 have h3:=fun s=>Ku ho s
 rcases Bool.eq_false_or_eq_true (p.check.1==0)with b1 | b1
 case inr=>
  refine aB.go iC rfl fun B Q hB hQ=> ?_
  have⟨hF,hP,gA,gB⟩:=bF
  repeat' (first
 | simp only [go_sem,hF,hP,gA,gB,b1,Bool.not_false]
 | (with_reducible refine CU (h1 _) ?_)
 | (with_reducible refine CU (h2 _) ?_)
 | (with_reducible refine CU (h3 _) ?_)
 | (with_reducible first | refine bq fun hc=> ?_ | refine br fun hc=> ?_ | refine bt (fun hc=> ?_) fun hc=> ?_) <;> (try simp only [hc,bs, ↓reduceIte]at h) <;> try simp only [hc]
 | (with_reducible refine aC hQ ?_;(try cases h);simp only [ay,az,bu,bw,go_sem,hF,hP,gA,gB,b1,Bool.not_false];try exact kb)
 | (cases h;replace h:=hr;clear hr;(try simp only [bs, ↓reduceIte]at h))
 | (cases h;done))
 have hr:=VI b1
 have hb:=hr.may
 have XY:=(yi hb).1
 have ta:Pc.aR p.procs≤p.size:=by unfold Pg.size;omega
 have tP:=G1 hb
 have h4:=fun s=>agN (p:=p) (by omega) (by omega) 0 s
 have h5:=fun s=>adw (l:=nJ 0 p.all) (by have:=Dd 0 p.all;omega) n s
 have aqW:=fun(h:ou (nJ 0 p.all) n≠0)=>Si hb h
 generalize ou (nJ 0 p.all) n=id at *
 have h6:=fun s=>adz (p:=p) (by omega) (by omega) id s
 generalize p.wB id=V at *
 rcases Bool.eq_false_or_eq_true (id==0)with uc | uc
 ·refine aB.go iC rfl fun B Q hB hQ=> ?_
  have⟨hF,hP,gA,gB⟩:=bF
  repeat' (first
 | simp only [go_sem,hF,hP,gA,gB,b1,Bool.not_true,uc]
 | (with_reducible refine CU (h1 _) ?_)
 | (with_reducible refine CU (h2 _) ?_)
 | (with_reducible refine CU (h3 _) ?_)
 | (with_reducible refine CU (h4 _) ?_)
 | (with_reducible refine CU (h5 _) ?_)
 | (with_reducible refine CU (h6 _) ?_)
 | (with_reducible first | refine bq fun hc=> ?_ | refine br fun hc=> ?_ | refine bt (fun hc=> ?_) fun hc=> ?_) <;> (try simp only [hc,bs, ↓reduceIte]at h) <;> try simp only [hc]
 | (with_reducible refine aC hQ ?_;(try cases h);simp only [ay,az,bu,bw,go_sem,hF,hP,gA,gB,b1,Bool.not_true,uc];try exact kb)
 | (cases h;replace h:=hr;clear hr;(try simp only [bs, ↓reduceIte]at h))
 | (cases h;done))
 obtain⟨hv,aep⟩:=aqW (by simpa using uc)
 rcases Bool.eq_false_or_eq_true (decide ((V.aQ.length:Int) > 0))with c1 | c1
 ·refine aB.go iC rfl fun B Q hB hQ=> ?_
  have⟨hF,hP,gA,gB⟩:=bF
  repeat' (first
 | simp only [go_sem,hF,hP,gA,gB,b1,Bool.not_true,uc,c1]
 | (with_reducible refine CU (h1 _) ?_)
 | (with_reducible refine CU (h2 _) ?_)
 | (with_reducible refine CU (h3 _) ?_)
 | (with_reducible refine CU (h4 _) ?_)
 | (with_reducible refine CU (h5 _) ?_)
 | (with_reducible refine CU (h6 _) ?_)
 | (with_reducible first | refine bq fun hc=> ?_ | refine br fun hc=> ?_ | refine bt (fun hc=> ?_) fun hc=> ?_) <;> (try simp only [hc,bs, ↓reduceIte]at h) <;> try simp only [hc]
 | (with_reducible refine aC hQ ?_;(try cases h);simp only [ay,az,bu,bw,go_sem,hF,hP,gA,gB,b1,Bool.not_true,uc,c1];try exact kb)
 | (cases h;replace h:=hr;clear hr;(try simp only [bs, ↓reduceIte]at h))
 | (cases h;done))
 rcases Bool.eq_false_or_eq_true (decide ((V.aM.length:Int) > 0))with c2 | c2
 ·refine aB.go iC rfl fun B Q hB hQ=> ?_
  have⟨hF,hP,gA,gB⟩:=bF
  repeat' (first
 | simp only [go_sem,hF,hP,gA,gB,b1,Bool.not_true,uc,c1,c2]
 | (with_reducible refine CU (h1 _) ?_)
 | (with_reducible refine CU (h2 _) ?_)
 | (with_reducible refine CU (h3 _) ?_)
 | (with_reducible refine CU (h4 _) ?_)
 | (with_reducible refine CU (h5 _) ?_)
 | (with_reducible refine CU (h6 _) ?_)
 | (with_reducible first | refine bq fun hc=> ?_ | refine br fun hc=> ?_ | refine bt (fun hc=> ?_) fun hc=> ?_) <;> (try simp only [hc,bs, ↓reduceIte]at h) <;> try simp only [hc]
 | (with_reducible refine aC hQ ?_;(try cases h);simp only [ay,az,bu,bw,go_sem,hF,hP,gA,gB,b1,Bool.not_true,uc,c1,c2];try exact kb)
 | (cases h;replace h:=hr;clear hr;(try simp only [bs, ↓reduceIte]at h))
 | (cases h;done))
 have qB:=fun s=>XN (p:=p) (by omega) s
 have iU:=(zh hb).2
 have VX:=aad hv
 have Yf : ∀ u∈p.pre,u.id=id→u=V:=fun u m hu=>by
  obtain⟨j1,e1⟩:=List.getElem?_of_mem hv
  obtain⟨j2,e2⟩:=List.getElem?_of_mem m
  have f1:=Bj hb e1
  have f2:=Bj hb e2
  have:j1=j2:=by rw [aep]at f1;rw [hu]at f2;omega
  subst this
  rw [e1]at e2
  exact(Option.some.inj e2).symm
 have eH:=V3 hr
 refine aB.go iC rfl fun B Q hB hQ=> ?_
 have⟨hF,hP,gA,gB⟩:=bF
 repeat' (first
 | simp only [go_sem,hF,hP,gA,gB,b1,Bool.not_true,uc,c1,c2]
 | (with_reducible refine CU (h1 _) ?_)
 | (with_reducible refine CU (h2 _) ?_)
 | (with_reducible refine CU (h3 _) ?_)
 | (with_reducible refine CU (h4 _) ?_)
 | (with_reducible refine CU (h5 _) ?_)
 | (with_reducible refine CU (h6 _) ?_)
 | (with_reducible refine CU (qB _) ?_)
 | (with_reducible first | refine bq fun hc=> ?_ | refine br fun hc=> ?_ | refine bt (fun hc=> ?_) fun hc=> ?_) <;> (try simp only [hc,bs, ↓reduceIte]at h) <;> try simp only [hc]
 | (with_reducible refine aC hQ ?_;(try cases h);simp only [ay,az,bu,bw,go_sem,hF,hP,gA,gB,b1,Bool.not_true,uc,c1,c2];try exact kb)
 | (cases h;replace h:=hr;clear hr;(try simp only [bs, ↓reduceIte]at h))
 | (cases h;done))
 refine cO 2 0 (bh.ind (ι:=List It×Nat×List It) (fun i=>p.all.drop i.2.1=i.1∧p.all=i.2.2++i.1∧∀ x∈i.2.2,(x.s.kind==10)=true→dX V.labels x.s.name=false) (fun i=>i.1.length)
  (fun i=> [(2, .ptr 0 0),(5, .int .i64 id),(6, .ptr 1 0),(40, .slice .shared 16 (p.all.map fB)),(41, .int .i64 (p.all.length:Int)),(42, .int .i64 (i.2.1:Int))]) (fun i=>⟨[bA p,aU V],[]⟩) ?_ (p.all,0,[]) ⟨rfl,rfl,fun _ m=>nomatch m⟩)
 rintro⟨rest,k,done⟩ ⟨i1,i2,i3⟩ IH
 dsimp only at i1 i2 i3
 cases rest with
 | nil=>
  have hF:=drop_nil i1
  rw [List.append_nil]at i2
  have hd:=fun s=>ZY (p:=p) (by omega) eH id s
  obtain⟨hq,hc⟩:=PC hr id ⟨V,hv,aep⟩ (fun u m hu=>by
   rw [Yf u m hu]
   simp only [gt_iff_lt,decide_eq_false_iff_not]at c1 c2
   exact⟨List.eq_nil_of_length_eq_zero (by omega),List.eq_nil_of_length_eq_zero (by omega)⟩) (fun v m hk u mu hu hn=>by
   rw [Yf u mu hu]at hn
   rw [← iU,List.mem_map]at m
   obtain⟨x,hx,rfl⟩:=m
   rw [i2]at hx
   have:=i3 x hx (by simpa using hk)
   rw [(fF _ _).2 hn]at this
   cases this)
  have hqs:(p.iO id).number.size≤p.size:=by rw [Pg.Kw];exact p.zA id
  generalize (p.iO id).number=q at *
  have hoq:q.kA:=⟨wj hq.may (by omega),by omega⟩
  have h7:=fun s=>Ku hoq s
  have h8:=fun s=>F1 (p:=q) (by omega) s
  have h9:=fun s=>F1 (p:=p) (by omega) s
  have b2:(q.check.1==0)=true:=by rw [hq.check];rfl
  have qw:=F0 p.procs
  have e1:((Pc.od q.procs:Int)==(Pc.od p.procs:Int) - 1)=true:=by simp only [beq_iff_eq];omega
  have e2:IntKind.wrap .i64 ((Pc.od p.procs:Int) - 1)=(Pc.od p.procs:Int) - 1:=by refine cV ?_ ?_ <;> omega
  repeat' (first
 | simp only [go_sem,hF,hP,gA,gB,b2,e1,e2]
 | (with_reducible refine CU (hd _) ?_)
 | (with_reducible refine CU (h7 _) ?_)
 | (with_reducible refine CU (h8 _) ?_)
 | (with_reducible refine CU (h9 _) ?_)
 | (with_reducible first | refine bq fun hc=> ?_ | refine br fun hc=> ?_ | refine bt (fun hc=> ?_) fun hc=> ?_) <;> (try simp only [hc,bs, ↓reduceIte]at h) <;> try simp only [hc]
 | (with_reducible refine aC hQ ?_;(try cases h);simp only [ay,az,bu,bw,go_sem,hF,hP,gA,gB,b2,e1,e2];try exact kb)
 | (cases h;replace h:=hr;clear hr;(try simp only [bs, ↓reduceIte]at h))
 | (cases h;done))
 | cons x rest=>
  obtain⟨hP,g2,hF,g4⟩:=drop_cons i1
  have bW:k<4611686018427387904:=by omega
  have zZ:=fun s=>aqo (l:=V.labels) (by omega) x.s.name .shared s
  rcases Bool.eq_false_or_eq_true (x.s.kind==10)with d1 | d1
  ·rcases Bool.eq_false_or_eq_true (dX V.labels x.s.name)with d2 | d2
   ·repeat' (first
 | simp only [go_sem,hF,hP,gA,gB,d1,d2]
 | (with_reducible refine CU (zZ _) ?_)
 | (with_reducible first | refine bq fun hc=> ?_ | refine br fun hc=> ?_ | refine bt (fun hc=> ?_) fun hc=> ?_) <;> (try simp only [hc,bs, ↓reduceIte]at h) <;> try simp only [hc]
 | (with_reducible refine aC hQ ?_;(try cases h);simp only [ay,az,bu,bw,go_sem,hF,hP,gA,gB,d1,d2];try exact kb)
 | (cases h;replace h:=hr;clear hr;(try simp only [bs, ↓reduceIte]at h))
 | (cases h;done))
   ·repeat' (first
 | simp only [go_sem,hF,hP,gA,gB,d1,d2]
 | (with_reducible refine CU (zZ _) ?_)
 | (with_reducible first | refine bq fun hc=> ?_ | refine br fun hc=> ?_ | refine bt (fun hc=> ?_) fun hc=> ?_) <;> (try simp only [hc,bs, ↓reduceIte]at h) <;> try simp only [hc]
 | (with_reducible refine aC hQ ?_;(try cases h);simp only [ay,az,bu,bw,go_sem,hF,hP,gA,gB,d1,d2];try exact kb)
 | (cases h;replace h:=hr;clear hr;(try simp only [bs, ↓reduceIte]at h))
 | (cases h;done))
    refine dH 2 0 ?_ ?_ (IH (rest,k+1,done++ [x]) ⟨g2,by rw [i2];simp,fun y m hk=>by
     rcases List.mem_append.1 m with m | m
     ·exact i3 y m hk
     ·have:y=x:=by simpa using m
      subst this;exact d2⟩ (Nat.lt_succ_self _))
    ·(simp only [go_sem,hF,hP,gA,gB,aJ bW];try exact bH)
    ·(simp only [go_sem,hF,hP,gA,gB,aJ bW];try exact bH)
  ·repeat' (first
 | simp only [go_sem,hF,hP,gA,gB,d1]
 | (with_reducible refine CU (zZ _) ?_)
 | (with_reducible first | refine bq fun hc=> ?_ | refine br fun hc=> ?_ | refine bt (fun hc=> ?_) fun hc=> ?_) <;> (try simp only [hc,bs, ↓reduceIte]at h) <;> try simp only [hc]
 | (with_reducible refine aC hQ ?_;(try cases h);simp only [ay,az,bu,bw,go_sem,hF,hP,gA,gB,d1];try exact kb)
 | (cases h;replace h:=hr;clear hr;(try simp only [bs, ↓reduceIte]at h))
 | (cases h;done))
   refine dH 2 0 ?_ ?_ (IH (rest,k+1,done++ [x]) ⟨g2,by rw [i2];simp,fun y m hk=>by
    rcases List.mem_append.1 m with m | m
    ·exact i3 y m hk
    ·have:y=x:=by simpa using m
     subst this;rw [d1]at hk;cases hk⟩ (Nat.lt_succ_self _))
   ·(simp only [go_sem,hF,hP,gA,gB,aJ bW];try exact bH)
   ·(simp only [go_sem,hF,hP,gA,gB,aJ bW];try exact bH)
end Go.Abs

/-! Join -/

namespace Go.Abs
open Go.RowKit Go.ChangeShapes Go.WideShapes
def F3 (w:World) (b o:Nat):Option Value:=
 match w.cell? ⟨b,o,none⟩with
 | some v=>if v.oneCell'=true then some v else none
 | none=>none
theorem Mk {w:World} (b o:Nat) (v:Value) (h:F3 w b o=some v):w.cell? ⟨b,o,none⟩=some v∧v.oneCell'=true:=by
 unfold F3 at h
 split at h
 ·split at h
  ·cases h;exact⟨‹_›, ‹_›⟩
  ·cases h
 ·cases h
def Bz (w:World):Map:=⟨F3 w,fun _=>(0, .any),fun _=>none⟩
theorem Kept.sameAt {w w':World} (h:Kept w w') {p:MemPlace} (hp:p.block<w.heap.size):w.sameAt w' p:=by
 have hk:=h.1.2.2 p.block hp
 cases p with
 | cell b off=>
  simp only [MemPlace.block]at hk hp
  simp only [World.sameAt,World.cell?]
  split at hk
  ·rename_i c t fr c' t' fr' e e'
   rw [e,e']
   simp only [hk.2.2.2 off (fun f=>f)]
  ·rename_i es clock AG aeq e e'
   rw [e,e']
  ·rw [hk]
 | map b=>
  simp only [MemPlace.block]at hk hp
  simp only [World.sameAt]
  split at hk
  ·rename_i c t fr c' t' fr' e e'
   rw [e,e']
   obtain⟨rfl,rfl,hs,hc⟩:=hk
   have:c'=c:=by
    apply Array.ext_getElem?
    intro i
    exact hc i (fun f=>f)
   rw [this]
  ·rename_i es clock AG aeq e e'
   rcases hk with f | ⟨rfl,rfl⟩
   ·exact f.elim
   ·rw [e,e']
  ·exact hk
section
variable {P:Program} {H:Type} {enc:TypeId×Value→H} {T:TypeId→Prop}
theorem E3 (K:Kids P T) (hz : ∀ {t e:TypeId},T t→P.underlying t=some (.slice e)→0<P.cellsOf e) {W W':World} (hk:Kept W W') {sp:Nat→Bool} :
 ∀ {ts:List TypeId} {vs:List Value} {ds:List (DataW H)} {ps:List MemPlace},(∀ t∈ts,T t)→(∀ p∈ps,p.block<W.heap.size)→(∀ p∈ps,sp p.block=true)→
  DataW.TrodAll enc P W 0 (fun _=>true) true ts vs ds ps→DataW.TrodAll enc P W' 0 sp true ts vs ds ps
 | [],[],[],_,_,_,_,h=>h
 | t::ts,v::vs,d::ds,ps,hT,hF,hs,⟨p,q,⟨n,h1⟩,h2,e⟩=>by
  subst e
  refine⟨p,q,⟨n,DataW.trod_stays K hz (fun f=>by cases f) (hT t (List.mem_cons_self ..)) h1 (fun x hx=>hk.sameAt (hF x (List.mem_append_left _ hx))) (fun x hx=>hs x (List.mem_append_left _ hx))⟩, ?_,rfl⟩
  exact E3 K hz hk (fun t ht=>hT t (List.mem_cons_of_mem _ ht)) (fun x hx=>hF x (List.mem_append_right _ hx)) (fun x hx=>hs x (List.mem_append_right _ hx)) h2
 | [],[],_::_,_,_,_,_,h=>h.elim
 | [],_::_,_,_,_,_,_,h=>h.elim
 | _::_,[],_,_,_,_,_,h=>h.elim
 | _::_,_::_,[],_,_,_,_,h=>h.elim
theorem V4 (K:Kids P T) (hz : ∀ {t e:TypeId},T t→P.underlying t=some (.slice e)→0<P.cellsOf e) {f:Func} {s:ChangeSpec} {apart fresh handsOn again:Bool} {tb:TypeId} {W W':World} {args:Array Value} {ds gs:List (DataW H)} {before:List MemPlace}
 (hT : ∀ t∈f.params.toList,T t) (hb:P.underlying tb=some .bool) (hr:f.resultTypes = #[tb]) (E1:s.vars = []) (hW:DataW.Whole enc P f.params.toList s.vars apart W args.toList ds gs before)
 (zY:s.fn H (ds++gs) = {results:= [.lit (.bool true)],args:=ds}) (hk:Kept W W'):s.post enc P f apart fresh handsOn again W args (.bool true) W':=by
 have hW':=hW
 have hF : ∀ p∈before,p.block<W.heap.size:=fun p hp=>hW.lt p hp
 obtain⟨p,q,hA,hV,rfl,hfz,hnd⟩:=hW
 rw [E1]at hV
 obtain⟨rfl,rfl⟩:=trodVars_none hV
 simp only [List.append_nil]at hF zY
 refine Ky (pa:=p) (pv:= []) hW' (fun b sp hd=> ?_) (fun sp tW=> ?_) (fun sp tW=> ?_) rfl hk (ok_one hr rfl (okWide_bool_mk hb _))
 ·rw [List.append_nil,zY,hr]
  exact trodAll_cons_mk (shut_bool hb _) trodAll_mk0
 ·rw [List.append_nil,zY]
  simp only [List.append_nil]at tW
  exact E3 K hz hk hT hF tW hA
 ·rw [List.append_nil,zY,E1]
  rfl
theorem aae {f:FuncId} {args:List D} {gi:Array Value} {w:World} (h:ew P f args S0 fun d _=>d = .bool true) (hl:gi.size=args.length)
 (ha : ∀ (i:Nat) (d:D) (v:Value),args[i]? = some d→gi[i]? = some v→RD (Bz w) S0 d v) (j9:PF w):Calls P f gi w fun e w'=>e = .returned (.bool true)∧Kept w w':=
 SK (G:=F3 w) h Mk hl ha j9
end
end Go.Abs

/-! Binds1 -/

namespace Go.Abs
set_option maxRecDepth 8000
open Go.Proofs
def E4 (n:Int):List D:= [.int .i64 n]
theorem ahj (n:Int):D.bp 0 0 (E4 n)=true:=rfl
theorem aes (n m:Nat) (l:List Int):D.kx n m (l.map E4)=l.map E4:=mL ahj n m l
attribute [go_sem] E4 aes
def ahk (op:Int):aD:=
 if op=5 then [42]else if op=6 then [47]else if op=7 then [37]else if op=8 then [43]else if op=9 then [45]else if op=10 then [60]else if op=11 then [60,61]
 else if op=12 then [62]else if op=13 then [62,61]else if op=14 then [61,61]else if op=15 then [33,61]else if op=16 then [38,38]else [124,124]
def ax8 (op:Int):Int:=(acD (ahk op)).1
def SO:Nat→List aD
 | 0=> []
 | n+1=>SO n++ [[UInt8.ofNat (97+n)]]
end Go.Abs

/-! Join2 -/

namespace Go.Abs
open Go.RowKit Go.ChangeShapes Go.WideShapes
end Go.Abs

/-! Join3 -/

namespace Go.Abs
open Go.RowKit Go.ChangeShapes Go.WideShapes
def fk (W:World) (ds:List D) (cs:List Value):Prop:=ds.length=cs.length∧(∀ (i:Nat) (d:D) (v:Value),ds[i]? = some d→cs[i]? = some v→RD (Bz W) S0 d v)∧∀ v∈cs,v.oneCell'=true
theorem fk.one {W:World} {d:D} {v:Value} (h:RD (Bz W) S0 d v) (hv:v.oneCell'=true):fk W [d] [v]:=by
 refine⟨rfl,fun i d' v' h1 h2=> ?_,fun u hu=>by simp at hu;subst hu;exact hv⟩
 cases i with
 | zero=>simp at h1 h2;subst h1 h2;exact h
 | succ i=>simp at h1
theorem fk.app {W:World} {ds nq:List D} {cs jq:List Value} (h:fk W ds cs) (h':fk W nq jq):fk W (ds++nq) (cs++jq):=by
 obtain⟨a1,a2,a3⟩:=h
 obtain⟨b1,b2,b3⟩:=h'
 refine⟨by simp [a1,b1],fun i d v h1 h2=> ?_,fun v hv=> ?_⟩
 ·by_cases hi:i<ds.length
  ·rw [List.getElem?_append_left hi]at h1
   rw [List.getElem?_append_left (by omega)]at h2
   exact a2 i d v h1 h2
  ·rw [List.getElem?_append_right (by omega)]at h1
   rw [List.getElem?_append_right (by omega), ← a1]at h2
   exact b2 _ d v h1 h2
 ·rcases List.mem_append.1 hv with hv | hv
  ·exact a3 v hv
  ·exact b3 v hv
theorem fk.at {W:World} {ds nq:List D} {cs:List Value} {o n:Nat} (h:fk W ds ((cs.drop o).take n)) (h':fk W nq (cs.drop (o+n))):fk W (ds++nq) (cs.drop o):=by
 have e:cs.drop o=(cs.drop o).take n++cs.drop (o+n):=by rw [← List.drop_drop,List.take_append_drop]
 rw [e]
 exact h.app h'
theorem fk.end {W:World} {cs:List Value} {o:Nat} (h:cs.length=o):fk W [] (cs.drop o):=by
 rw [← h,List.drop_length]
 exact⟨rfl,fun i d v h=>by simp at h,fun v hv=>by cases hv⟩
section
variable {H:Type} {enc:TypeId×Value→H} {P:Program} {W:World} {sp:Nat→Bool}
def structOf (P:Program) (t:TypeId):List (TypeId×Nat):=
 match P.underlying t with
 | some (.struct fs)=>fs.toList.map fun f=>(f.type,f.offset)
 | _=> []
theorem lJ {t:TypeId} {l:List (TypeId×Nat)} {fuel:Nat} {cs:List Value} {x:DataW H×List MemPlace} (h:structOf P t=l) (eH:l≠ []) (ht:DataW.trod enc P W 0 sp true fuel t cs=some x) :
 ∃ n,fuel=n+1∧cs.length=P.cellsOf t∧∀ (i:Nat) (f:TypeId×Nat),l[i]? = some f→∃ y,DataW.trod enc P W 0 sp true n f.1 ((cs.drop f.2).take (P.cellsOf f.1))=some y:=by
 unfold structOf at h
 split at h
 ·rename_i fs hu
  obtain⟨xs,n,e,_,hl,hlen,hf⟩:=DataW.trod_struct hu ht
  refine⟨n,e,hl,fun i f hi=> ?_⟩
  subst h
  rw [List.getElem?_map,Option.map_eq_some_iff]at hi
  obtain⟨g,hg,rfl⟩:=hi
  have pI:fs[i]? = some g:=by simpa using hg
  have hi:i<xs.length:=by rw [hlen];exact(Array.getElem?_eq_some_iff.1 pI).1
  exact⟨xs[i],by rw [hf i g pI,List.getElem?_eq_getElem hi]⟩
 ·exact absurd h.symm eH
theorem HS {t:TypeId} {l:List (TypeId×Nat)} (h:structOf P t=l) (eH:l≠ []) : ∃ fs,P.underlying t=some (.struct fs):=by
 unfold structOf at h
 split at h
 ·exact⟨_, ‹_›⟩
 ·exact absurd h.symm eH
theorem CA {α:Type} {Q:Nat→α→Prop} : ∀ n,(∀ i,i<n→∃ y,Q i y)→∃ ys:List α,ys.length=n∧∀ i y,ys[i]? = some y→Q i y
 | 0,_=>⟨[],rfl,fun i y h=>by simp at h⟩
 | n+1,h=>by
  obtain⟨ys,h1,h2⟩:=CA n fun i hi=>h i (by omega)
  obtain⟨y,hy⟩:=h n (by omega)
  refine⟨ys++ [y],by simp [h1],fun i z hz=> ?_⟩
  by_cases hi:i<ys.length
  ·rw [List.getElem?_append_left hi]at hz;exact h2 i z hz
  ·rw [List.getElem?_append_right (by omega)]at hz
   have:i - ys.length=0:=by
    rcases Nat.eq_zero_or_pos (i - ys.length)with h | h
    ·exact h
    ·rw [List.getElem?_eq_none (by simp only [List.length_cons,List.length_nil];omega)]at hz;cases hz
   rw [this]at hz
   simp at hz
   subst hz
   have:i=n:=by omega
   subst this
   exact hy
theorem o3 {α:Type} (en:α→List D) (good:α→Prop) {z:Nat} {t e:TypeId} {fuel:Nat} {cs:List Value} {x:DataW H×List MemPlace} (ht:P.underlying t=some (.slice e)) (hz:P.cellsOf e=z) (hz0:0<z) (hen : ∀ y,(en y).length=z)
 (hel : ∀ n<fuel,∀ cs x,DataW.trod enc P W 0 sp true n e cs=some x→∃ y,fk W (en y) cs∧good y) (h:DataW.trod enc P W 0 sp true fuel t cs=some x) :
 ∃ ys:List α,fk W [.slice .shared z (ys.map en)] cs∧∀ y∈ys,good y:=by
 rcases DataW.trod_slice ht h with ⟨rfl,_⟩ | ⟨a,len,cap,elems,rest,n,hn,rfl,_,hb,hl,hm,hlen,qO,_,_⟩
 ·exact⟨[],fk.one (.iZ _ _ _ rfl trivial) rfl,fun y hy=>by cases hy⟩
 ·by_cases h0:len=0
  ·subst h0
   exact⟨[],fk.one (.lV _ _ _) rfl,fun y hy=>by cases hy⟩
  ·obtain⟨ys,hys,qV⟩:=CA (Q:=fun i y=>good y∧∃ jq,W.cells? 0 (a.add (i*z)) z=some jq∧fk W (en y) jq) len fun i hi=>by
    have hc:=qO i hi
    rw [List.getElem?_eq_getElem (by omega),hz,Option.bind_eq_some_iff]at hc
    obtain⟨jq,h1,h2⟩:=hc
    obtain⟨y,h3,h4⟩:=hel n (by omega) _ _ h2
    exact⟨y,h4,jq,h1,h3⟩
   have cell : ∀ i y,ys[i]? = some y→∀ (j:Nat) d,(en y)[j]? = some d→∃ v,W.cell? ((a.add (i*z)).add j)=some v∧RD (Bz W) S0 d v∧v.oneCell'=true:=by
    intro i y hy j d hd
    obtain⟨_,jq,h1,h2,h3,h4⟩:=qV i y hy
    obtain⟨_,k1,k2⟩:=World.cells?_some h1
    have hj:j<z:=by rw [← hen y];exact(List.getElem?_eq_some_iff.1 hd).1
    have hv:jq[j]? = some jq[j]:=List.getElem?_eq_getElem (by omega)
    exact⟨jq[j],by rw [k2 j hj,hv],h3 j d _ hd hv,h4 _ (List.getElem_mem _)⟩
   obtain⟨b,off,spot⟩:=a
   have ahl:spot=none:=by
    have hy:ys[0]? = some (ys[0]'(by omega)):=List.getElem?_eq_getElem (by omega)
    obtain⟨d,hd⟩ : ∃ d,(en (ys[0]'(by omega)))[0]? = some d:=⟨_,List.getElem?_eq_getElem (show 0<(en (ys[0]'(by omega))).length by rw [hen];exact hz0)⟩
    obtain⟨v,hv,_⟩:=cell 0 _ hy 0 _ hd
    have:=World.cell?_spot hv
    simpa [Addr.add]using this
   subst ahl
   have e:(ys.map en).length=len:=by simp [hys]
   have:=RD.slice (M:=Bz W) (s:=S0) .shared z (ys.map en) b off cap (by omega) (fun row hr=>by obtain⟨y,_,rfl⟩:=List.mem_map.1 hr;exact hen y)
    (fun i row j d h1 h2=>by
     rw [List.getElem?_map,Option.map_eq_some_iff]at h1
     obtain⟨y,h1,rfl⟩:=h1
     obtain⟨v,hv,_,h4⟩:=cell i y h1 j d h2
     rw [add_plain,add_plain]at hv
     refine⟨v, ?_⟩
     show F3 W b (off+(i*z+j))=_
     unfold F3
     rw [show off+(i*z+j)=off+i*z+j by omega,hv]
     simp [h4])
    (fun i row j d u h1 h2 hu=>by
     rw [List.getElem?_map,Option.map_eq_some_iff]at h1
     obtain⟨y,h1,rfl⟩:=h1
     obtain⟨v,hv,h3,h4⟩:=cell i y h1 j d h2
     rw [add_plain,add_plain]at hv
     obtain⟨hu,_⟩:=Mk _ _ _ hu
     rw [show off+(i*z+j)=off+i*z+j by omega,hv]at hu
     cases hu
     exact h3) trivial
   rw [e]at this
   refine⟨ys,fk.one this rfl,fun y hy=> ?_⟩
   obtain⟨i,hi⟩:=List.getElem?_of_mem hy
   exact(qV i y hi).1
theorem E5 {t:TypeId} {fuel:Nat} {cs:List Value} {x:DataW H×List MemPlace} (ht:P.underlying t=some (.int .i64)) (h:DataW.trod enc P W 0 sp true fuel t cs=some x) : ∃ n:Int,fk W [.int .i64 n] cs∧n≤9223372036854775807∧ -9223372036854775808≤n:=by
 obtain⟨n,rfl,_,hw⟩:=DataW.trod_int ht h
 simp [Lit.wf,IntKind.min,IntKind.max,IntKind.signed,IntKind.bits]at hw
 exact⟨n,fk.one (.int _ _) rfl,by omega,by omega⟩
theorem F4 {t:TypeId} {fuel:Nat} {cs:List Value} {x:DataW H×List MemPlace} (ht:P.underlying t=some .bool) (h:DataW.trod enc P W 0 sp true fuel t cs=some x) : ∃ b:Bool,fk W [.bool b] cs:=by
 obtain⟨n,rfl,_⟩:=DataW.trod_bool ht h
 exact⟨n,fk.one (.bool _) rfl⟩
theorem vB {t:TypeId} {fuel:Nat} {cs:List Value} {x:DataW H×List MemPlace} (ht:P.underlying t=some .string) (h:DataW.trod enc P W 0 sp true fuel t cs=some x) : ∃ s:aD,fk W (encStr s) cs∧s.length≤maxLen:=by
 obtain⟨s,rfl,_,hm⟩:=DataW.trod_string ht h
 obtain⟨⟨l⟩⟩:=s
 exact⟨l,fk.one (.str l) rfl,hm⟩
theorem ahm {tE tI tN tS tK:TypeId} (hE:structOf P tE = [(tI,0),(tN,1),(tS,2),(tK,3)]) (hEc:P.cellsOf tE=4) (hI:P.underlying tI=some (.int .i64)) (hN:P.underlying tN=some (.int .i64)) (hS:P.underlying tS=some .string) (hK:P.underlying tK=some (.slice tE))
 (cI:P.cellsOf tI=1) (cN:P.cellsOf tN=1) (cS:P.cellsOf tS=1) (cK:P.cellsOf tK=1) :
 ∀ (fuel:Nat) (cs:List Value) (x:DataW H×List MemPlace),DataW.trod enc P W 0 sp true fuel tE cs=some x→∃ y:Ex,fk W (bx y) cs∧y.rn:=by
 intro fuel
 induction fuel using Nat.strongRecOn with
 | _ fuel ih=>
  intro cs x h
  obtain⟨n,rfl,hl,hf⟩:=lJ hE (by simp) h
  obtain⟨y0,h0⟩:=hf 0 _ rfl
  obtain⟨y1,h1⟩:=hf 1 _ rfl
  obtain⟨y2,h2⟩:=hf 2 _ rfl
  obtain⟨y3,h3⟩:=hf 3 _ rfl
  dsimp only at h0 h1 h2 h3
  rw [cI]at h0
  rw [cN]at h1
  rw [cS]at h2
  rw [cK]at h3
  obtain⟨op,r0,_⟩:=E5 hI h0
  obtain⟨m,r1,hm,_⟩:=E5 hN h1
  obtain⟨s,r2,_⟩:=vB hS h2
  obtain⟨ks,r3,hg⟩:=o3 (W:=W) bx Ex.rn hK hEc (by decide) WH (fun k hk cs x hx=>ih k (by omega) cs x hx) h3
  refine⟨⟨op,m,s,ks⟩, ?_,hm, ?_⟩
  ·have:=r0.at (r1.at (r2.at (r3.at (fk.end (by rw [hl,hEc])))))
   rw [gu]
   simpa [encStr]using this
  ·clear r3
   induction ks with
   | nil=>exact trivial
   | cons k ks ihk=>exact⟨hg k (by simp),ihk fun y hy=>hg y (by simp [hy])⟩
theorem fk.agg {ds:List D} {v:Value} (h:fk W ds v.cells.toList) (hv : ∃ vs,v = .agg vs):RD (Bz W) S0 (.agg ds) v:=by
 obtain⟨vs,rfl⟩:=hv
 obtain⟨h1,h2,h3⟩:=h
 have e:(Value.agg vs).cells=vs:=rfl
 rw [e]at h1 h2 h3
 refine .agg ds vs (by simpa using h1) (fun v hv=>h3 v (by simpa using hv)) fun i d v hd hv=>h2 i d v hd (by simpa using hv)
end
end Go.Abs

/-! Join4 -/

namespace Go.Abs
open Go.Proofs Go.RowKit Go.ChangeShapes Go.WideShapes
section
variable {H:Type} {enc:TypeId×Value→H} {W:World} {sp:Nat→Bool}
theorem SP (fuel:Nat) (cs:List Value) (x:DataW H×List MemPlace) (h:DataW.trod enc Tryz.prog W 0 sp true fuel 50 cs=some x) : ∃ y:Ex,fk W (bx y) cs∧y.rn:=
 ahm (tE:=50) (tI:=3) (tN:=2) (tS:=9) (tK:=48) (by kernel_rfl) (by kernel_rfl) (by kernel_rfl) (by kernel_rfl) (by kernel_rfl) (by kernel_rfl) (by kernel_rfl) (by kernel_rfl) (by kernel_rfl) (by kernel_rfl) _ _ _ h
theorem aaf:Tryz.prog.underlying 22=some (.slice 9):=by kernel_rfl
theorem yu:Tryz.prog.underlying 9=some .string:=by kernel_rfl
theorem SQ:Tryz.prog.underlying 3=some (.int .i64):=by kernel_rfl
theorem F5:Tryz.prog.underlying 4=some .bool:=by kernel_rfl
theorem BA:Tryz.prog.cellsOf 9=1:=by kernel_rfl
theorem aew:Tryz.prog.cellsOf 3=1:=by kernel_rfl
theorem F6:Tryz.prog.cellsOf 4=1:=by kernel_rfl
theorem F7:Tryz.prog.cellsOf 22=1:=by kernel_rfl
theorem Yg:Tryz.prog.cellsOf 50=4:=by kernel_rfl
theorem zE {fuel:Nat} {cs:List Value} {x:DataW H×List MemPlace} (h:DataW.trod enc Tryz.prog W 0 sp true fuel 22 cs=some x) : ∃ l:List aD,fk W [.slice .shared 1 (l.map encStr)] cs:=by
 obtain⟨l,h,_⟩:=o3 (W:=W) encStr (fun _=>True) aaf BA (by decide) (fun _=>rfl) (fun k hk cs x hx=>by
  obtain⟨s,hs,_⟩:=vB yu hx
  exact⟨s,hs,trivial⟩) h
 exact⟨l,h⟩
theorem aex {fuel:Nat} {cs:List Value} {x:DataW H×List MemPlace} (h:DataW.trod enc Tryz.prog W 0 sp true fuel 42 cs=some x) : ∃ y:Pm,fk W (fS y) cs:=by
 obtain⟨n,rfl,hl,hf⟩:=lJ (l:= [(9,0),(4,1)]) (by kernel_rfl) (by simp) h
 have hc:Tryz.prog.cellsOf 42=2:=by kernel_rfl
 obtain⟨y0,h0⟩:=hf 0 _ rfl
 obtain⟨y1,h1⟩:=hf 1 _ rfl
 dsimp only at h0 h1
 rw [BA]at h0
 rw [F6]at h1
 obtain⟨s,r0,_⟩:=vB yu h0
 obtain⟨b,r1⟩:=F4 F5 h1
 refine⟨⟨s,b⟩, ?_⟩
 have:=r0.at (r1.at (fk.end (by rw [hl,hc])))
 simpa [encStr,fS]using this
theorem aey {fuel:Nat} {cs:List Value} {x:DataW H×List MemPlace} (h:DataW.trod enc Tryz.prog W 0 sp true fuel 123 cs=some x) : ∃ y:Ar,fk W (ej y) cs∧y.x.rn:=by
 obtain⟨n,rfl,hl,hf⟩:=lJ (l:= [(4,0),(9,1),(50,2)]) (by kernel_rfl) (by simp) h
 have hc:Tryz.prog.cellsOf 123=6:=by kernel_rfl
 obtain⟨y0,h0⟩:=hf 0 _ rfl
 obtain⟨y1,h1⟩:=hf 1 _ rfl
 obtain⟨y2,h2⟩:=hf 2 _ rfl
 dsimp only at h0 h1 h2
 rw [F6]at h0
 rw [BA]at h1
 rw [Yg]at h2
 obtain⟨b,r0⟩:=F4 F5 h0
 obtain⟨s,r1,_⟩:=vB yu h1
 obtain⟨e,r2,hr⟩:=SP _ _ _ h2
 refine⟨⟨b,s,e⟩, ?_,hr⟩
 have:=r0.at (r1.at (r2.at (fk.end (by rw [hl,hc]))))
 rw [gu]at this
 simpa [encStr,ej]using this
theorem zF : ∀ {l:List Sm},(∀ s∈l,s.rn)→Sm.xj l
 | [],_=>trivial
 | s::l,h=>⟨h s (List.mem_cons_self ..),zF fun t m=>h t (List.mem_cons_of_mem _ m)⟩
theorem aez : ∀ (fuel:Nat) (cs:List Value) (x:DataW H×List MemPlace),DataW.trod enc Tryz.prog W 0 sp true fuel 53 cs=some x→∃ y:Sm,fk W (aU y) cs∧y.rn:=by
 intro fuel
 induction fuel using Nat.strongRecOn with
 | _ fuel ih=>
  intro cs x h
  obtain⟨n,rfl,hl,hf⟩:=lJ (l:= [(3,0),(3,1),(22,2),(9,3),(9,4),(50,5),(4,9),(51,10),(44,11),(44,12)]) (by kernel_rfl) (by simp) h
  have hc:Tryz.prog.cellsOf 53=13:=by kernel_rfl
  have ca:Tryz.prog.cellsOf 51=1:=by kernel_rfl
  have jq:Tryz.prog.cellsOf 44=1:=by kernel_rfl
  have ua:Tryz.prog.underlying 51=some (.slice 123):=by kernel_rfl
  have us:Tryz.prog.underlying 44=some (.slice 53):=by kernel_rfl
  have ca6:Tryz.prog.cellsOf 123=6:=by kernel_rfl
  obtain⟨y0,h0⟩:=hf 0 _ rfl
  obtain⟨y1,h1⟩:=hf 1 _ rfl
  obtain⟨y2,h2⟩:=hf 2 _ rfl
  obtain⟨y3,h3⟩:=hf 3 _ rfl
  obtain⟨y4,h4⟩:=hf 4 _ rfl
  obtain⟨y5,h5⟩:=hf 5 _ rfl
  obtain⟨y6,h6⟩:=hf 6 _ rfl
  obtain⟨y7,h7⟩:=hf 7 _ rfl
  obtain⟨y8,h8⟩:=hf 8 _ rfl
  obtain⟨y9,h9⟩:=hf 9 _ rfl
  dsimp only at h0 h1 h2 h3 h4 h5 h6 h7 h8 h9
  rw [aew]at h0 h1
  rw [F7]at h2
  rw [BA]at h3 h4
  rw [Yg]at h5
  rw [F6]at h6
  rw [ca]at h7
  rw [jq]at h8 h9
  obtain⟨id,r0,_⟩:=E5 SQ h0
  obtain⟨kind,r1,_⟩:=E5 SQ h1
  obtain⟨labels,r2⟩:=zE h2
  obtain⟨name,r3,_⟩:=vB yu h3
  obtain⟨proc,r4,_⟩:=vB yu h4
  obtain⟨e,r5,hr⟩:=SP _ _ _ h5
  obtain⟨b,r6⟩:=F4 F5 h6
  obtain⟨args,r7,ha⟩:=o3 (W:=W) ej (fun a=>a.x.rn) ua ca6 (by decide) (fun _=>rfl) (fun k hk cs x hx=>aey hx) h7
  obtain⟨aQ,r8,ht⟩:=o3 (W:=W) aU Sm.rn us hc (by decide) HX (fun k hk cs x hx=>ih k (by omega) cs x hx) h8
  obtain⟨aM,r9,he⟩:=o3 (W:=W) aU Sm.rn us hc (by decide) HX (fun k hk cs x hx=>ih k (by omega) cs x hx) h9
  refine⟨⟨id,kind,labels,name,proc,e,b,args,aQ,aM⟩, ?_,hr,ha,zF ht,zF he⟩
  have:=r0.at (r1.at (r2.at (r3.at (r4.at (r5.at (r6.at (r7.at (r8.at (r9.at (fk.end (by rw [hl,hc])))))))))))
  rw [gu]at this
  rw [cv]
  simpa [encStr]using this
theorem aeA {fuel:Nat} {cs:List Value} {x:DataW H×List MemPlace} (h:DataW.trod enc Tryz.prog W 0 sp true fuel 46 cs=some x) : ∃ y:Pc,fk W (bG y) cs∧Sm.xj y.body:=by
 obtain⟨n,rfl,hl,hf⟩:=lJ (l:= [(9,0),(43,1),(22,2),(44,3),(22,4)]) (by kernel_rfl) (by simp) h
 have hc:Tryz.prog.cellsOf 46=5:=by kernel_rfl
 have cp:Tryz.prog.cellsOf 43=1:=by kernel_rfl
 have jq:Tryz.prog.cellsOf 44=1:=by kernel_rfl
 have up:Tryz.prog.underlying 43=some (.slice 42):=by kernel_rfl
 have us:Tryz.prog.underlying 44=some (.slice 53):=by kernel_rfl
 have cp2:Tryz.prog.cellsOf 42=2:=by kernel_rfl
 have aqY:Tryz.prog.cellsOf 53=13:=by kernel_rfl
 obtain⟨y0,h0⟩:=hf 0 _ rfl
 obtain⟨y1,h1⟩:=hf 1 _ rfl
 obtain⟨y2,h2⟩:=hf 2 _ rfl
 obtain⟨y3,h3⟩:=hf 3 _ rfl
 obtain⟨y4,h4⟩:=hf 4 _ rfl
 dsimp only at h0 h1 h2 h3 h4
 rw [BA]at h0
 rw [cp]at h1
 rw [F7]at h2 h4
 rw [jq]at h3
 obtain⟨name,r0,_⟩:=vB yu h0
 obtain⟨ps,r1,_⟩:=o3 (W:=W) fS (fun _=>True) up cp2 (by decide) (fun _=>rfl) (fun k hk cs x hx=>by
  obtain⟨y,hy⟩:=aex hx
  exact⟨y,hy,trivial⟩) h1
 obtain⟨vars,r2⟩:=zE h2
 obtain⟨body,r3,hb⟩:=o3 (W:=W) aU Sm.rn us aqY (by decide) HX (fun k hk cs x hx=>aez k cs x hx) h3
 obtain⟨fin,r4⟩:=zE h4
 refine⟨⟨name,ps,vars,body,fin⟩, ?_,zF hb⟩
 have:=r0.at (r1.at (r2.at (r3.at (r4.at (fk.end (by rw [hl,hc]))))))
 simpa [encStr,bG]using this
theorem aeB {fuel:Nat} {cs:List Value} {x:DataW H×List MemPlace} (h:DataW.trod enc Tryz.prog W 0 sp true fuel 25 cs=some x) : ∃ y:Pg,fk W (bA y) cs∧y.rn:=by
 obtain⟨n,rfl,hl,hf⟩:=lJ (l:= [(22,0),(23,1)]) (by kernel_rfl) (by simp) h
 have hc:Tryz.prog.cellsOf 25=2:=by kernel_rfl
 have cp:Tryz.prog.cellsOf 23=1:=by kernel_rfl
 have up:Tryz.prog.underlying 23=some (.slice 46):=by kernel_rfl
 have cp5:Tryz.prog.cellsOf 46=5:=by kernel_rfl
 obtain⟨y0,h0⟩:=hf 0 _ rfl
 obtain⟨y1,h1⟩:=hf 1 _ rfl
 dsimp only at h0 h1
 rw [F7]at h0
 rw [cp]at h1
 obtain⟨globals,r0⟩:=zE h0
 obtain⟨procs,r1,hp⟩:=o3 (W:=W) bG (fun f=>Sm.xj f.body) up cp5 (by decide) (fun _=>rfl) (fun k hk cs x hx=>aeA hx) h1
 refine⟨⟨globals,procs⟩, ?_,hp⟩
 have:=r0.at (r1.at (fk.end (by rw [hl,hc])))
 simpa [bA]using this
end
end Go.Abs

/-! Join5 -/

namespace Go.Abs
open Go.Proofs Go.ChangeShapes Go.WideShapes Go.ChangeAt Go.RowKit
theorem Hl {H:Type} {enc:TypeId×Value→H} {P:Program} {W:World} {sp:Nat→Bool} {t:TypeId} {ts:List TypeId} {ps:List MemPlace} : ∀ {l:List Value} {ds:List (DataW H)},DataW.TrodAll enc P W 0 sp true (t::ts) l ds ps→
 ∃ v l' d nq p q,l=v::l'∧ds=d::nq∧DataW.Trod enc P W 0 sp true t v d p∧DataW.TrodAll enc P W 0 sp true ts l' nq q
 | v::l,d::ds,⟨p,q,h1,h2,e⟩=>⟨v,l,d,ds,p,q,rfl,rfl,h1,h2⟩
 | [],[],h=>h.elim
 | [],_::_,h=>h.elim
 | _::_,[],h=>h.elim
theorem V5 {H:Type} {enc:TypeId×Value→H} {P:Program} {W:World} {sp:Nat→Bool} {ps:List MemPlace} : ∀ {l:List Value} {ds:List (DataW H)},DataW.TrodAll enc P W 0 sp true [] l ds ps→l = []∧ds = []
 | [],[],_=>⟨rfl,rfl⟩
 | [],_::_,h=>h.elim
 | _::_,ds,h=>by cases ds <;> exact h.elim
end Go.Abs

/-! CheckLess -/

namespace Go.Proofs.YtiopamakecmpkaaGreat.checkLess
open Go.ChangeShapes Go.WideShapes Go.ChangeAt Go.RowKit Go.Abs
theorem own:ownKnob Tryz.prog.godebug=none:=by kernel_rfl
theorem kids:Kids Tryz.prog (· < Tryz.prog.types.size):=kids_rows (by kernel_rfl) (by kernel_rfl)
theorem full : ∀ {t e:TypeId},t<Tryz.prog.types.size→Tryz.prog.underlying t=some (.slice e)→0<Tryz.prog.cellsOf e:=fun {t e}=>slices_full_of Tryz.prog (by kernel_rfl) t e
theorem walk (w:World) (x0:Pg) (P3:x0.rn) (v0:Value) (hv0:RD (Bz w) S0 (.agg (bA x0)) v0) (x1:Int):Calls Tryz.prog 9 #[v0, .int .i64 x1] w fun e w'=>e = .returned (.bool true)∧Kept w w':=by
 refine aae (args:= [.agg (bA x0), .int .i64 x1]) ((HR x0 x1 S0).mono fun _ _ h=>h.1) rfl ?_ (fun _ _ h=>nomatch h)
 intro i d v h1 h2
 match i,h1,h2 with
 | 0,h1,h2=>simp at h1 h2;subst h1 h2;exact hv0
 | 1,h1,h2=>simp at h1 h2;subst h1 h2;exact RD.int _ _
set_option maxRecDepth 100000 in
theorem lifted (os : Os) (started : os.Started) (H : Type) (enc : TypeId × Value → H) :
   ReturnsInHanded {} Tryz.checked os 9 .any (Rows.checkLessSpec.pre6 enc Tryz.prog Tryz.f9 Rows.checkLessRow.domain false) (Rows.checkLessSpec.post enc Tryz.prog Tryz.f9 false true false false) := by
 refine returnsInHanded_of_change (C := Tryz.checked) own started (by kernel_rfl) Tryz.func9
   (ChangeSpec.witness6 (enc := enc) (C := Tryz.checked) false ⟨#[], #[.agg #[.slice none 0 0, .slice none 0 0], .int .i64 0], []⟩ 8 (by kernel_rfl) (by kernel_rfl) (by kernel_rfl) (by kernel_rfl)) ?_
 intro W base args ds gs before ahr hW lb _
 have rU : ∀ (j : Nat) t v, Tryz.f9.params[j]? = some t → args[j]? = some v → Value.okWide Tryz.prog W .any base t v := ahr
 have hW' := hW
 obtain ⟨p, q, hA0, hV, rfl, hfz, hnd⟩ := hW
 have hA : DataW.TrodAll enc Tryz.prog W 0 (fun _ => true) true Tryz.f9.params.toList args.toList ds p := hA0
 rw [Tryz.params9] at hA rU
 obtain ⟨l⟩ := args
 obtain ⟨v0, l0, d0, IV, p0, q0, e0, e0d, Ba, hA0⟩ := Hl hA
 obtain ⟨v1, l1, d1, ds1, p1, q1, e1, e1d, JW, hA1⟩ := Hl hA0
 obtain ⟨en, end_⟩ := V5 hA1
 have el : l = [v0, v1] := by rw [show l = _ from e0, e1, en]
 subst el
 have ed : ds = [d0, d1] := by rw [e0d, e1d, end_]
 clear e0d
 subst ed
 have SC : ∀ (i : Nat) (v : Value), Tryz.f9.params[i]? = some 25 → (⟨[v0, v1]⟩ : Array Value)[i]? = some v → ∀ {d ps}, DataW.Trod enc Tryz.prog W 0 (fun _ => true) true 25 v d ps → ∃ x : Pg, RD (Bz W) S0 (.agg (bA x)) v ∧ x.rn := by
   intro i v hp hv d ps ⟨fuel, hf⟩
   obtain ⟨y, h1, h2⟩ := aeB hf
   obtain ⟨fs, DA⟩ := HS (P := Tryz.prog) (t := 25) (l := [(22, 0), (23, 1)]) (by kernel_rfl) (by simp)
   obtain ⟨cs, e, _⟩ := okWide_struct DA (rU i 25 v (by rw [← Tryz.params9]; exact hp) hv)
   exact ⟨y, h1.agg ⟨cs, e⟩, h2⟩
 obtain ⟨x0, hv0, P3⟩ := SC 0 v0 (by rw [Tryz.params9]; rfl) rfl Ba
 obtain ⟨x1, rfl, rfl, rfl, hi1⟩ := open_int Tryz.underlying3 (rU 1 _ _ rfl rfl) JW
 obtain ⟨rfl, rfl⟩ := trodVars_none hV
 refine (walk W x0 P3 v0 hv0 x1).mono fun e W' ⟨he, hg⟩ => ?_
 subst he
 exact ⟨_, rfl, V4 kids full (by rw [Tryz.params9]; decide) Tryz.underlying4 (by kernel_rfl) rfl hW' rfl hg⟩
theorem over:Rows.checkLessRow.holds Tryz.pinned (OpenSpec.ofChange Rows.checkLessSpec):=
 OpenClaim.holds_of_wide 9 Tryz.f9 rfl rfl rfl rfl rfl rfl rfl ⟨rfl,rfl,rfl,rfl,rfl⟩ rfl rfl rfl rfl rfl (by kernel_rfl) Tryz.func9 (by kernel_rfl)
  (of_decide_eq_true (by kernel_rfl)) (by unfold Func.isWrapper;first | (rw [if_pos (by decide +kernel)];kernel_rfl) | (rw [if_neg (by decide +kernel)];exact⟨rfl,rfl⟩))
  (fun os started H enc _=>lifted os started H enc)
theorem proved:Rows.CheckLessSaid:=
 over
#print axioms proved
end Go.Proofs.YtiopamakecmpkaaGreat.checkLess
