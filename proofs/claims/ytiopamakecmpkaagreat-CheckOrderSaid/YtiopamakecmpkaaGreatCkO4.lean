/-
  What is proved here: the statement CheckOrderSaid: whatever the arguments, the law, called, gives true, and of what was there nothing turns.
  No conditions.
-/
import Derived.Test.YtiopamakecmpkaaGreatCkO3
import Derived.KernelRfl
import Derived.RowKit3
import Derived.Test.YtiopamakecmpkaaGreatRows
import Derived.WalkKit
import Derived.ProofKit
import Derived.OpenShut
import Derived.ShutString
import Derived.ChangeMaps5
import Derived.Lib.ItoaMem
import Derived.Shelf.Strings.Builder1
import Derived.Lib.Join
import Derived.ChangeStays

set_option linter.unusedSimpArgs false
set_option linter.unusedVariables false

/-! Fits1 -/

namespace Go.Abs
set_option maxRecDepth 8000
open Go.Proofs
def dw:List aB→Int→Int
 | [],n=>n
 | t::l,n=>if n≤20000 then dw l (cy t n)else n
def gF:List Ar→Int→Int
 | [],n=>n
 | a::l,n=>if n≤20000 then gF l (cy a.name (ej a.x n))else n
def jh:List Pm→Int→Int
 | [],n=>n
 | a::l,n=>if n≤20000 then jh l (cy a.name n)else n
mutual
def pF:Sm→Int→Int
 | ⟨_,_,labels,name,proc,x,_,args,a7,aW⟩,n=>eZ aW (eZ a7 (gF args (cy proc (cy name (dw labels (ej x n))))))
def eZ:List Sm→Int→Int
 | [],n=>n
 | s::l,n=>if n≤20000 then eZ l (pF s n)else n
end
theorem Nc (s:Sm) (n:Int):pF s n=eZ s.aW (eZ s.a7 (gF s.args (cy s.proc (cy s.name (dw s.labels (ej s.x n)))))):=by cases s;simp only [pF]
def qX (f:Pc) (n:Int):Int:=eZ f.body (jh f.params (dw f.fin (dw f.vars (cy f.name n))))
def lN:List Pc→Int→Int
 | [],n=>n
 | f::l,n=>if n≤20000 then lN l (qX f n)else n
def Pg.yy (p:Pg):Int:=lN p.procs (dw p.globals 0)
theorem jH : ∀ (l:List aB) {n:Int},0≤n→n≤20001→dw l n≤20001∧n≤dw l n∧(dw l n≤20000→n+l.length≤dw l n∧∀ t∈l,t.length<4611686018427387904)
 | [],n,h0,h1=>by simp only [dw];exact⟨h1,Int.le_refl _,fun _=>⟨by simp,by simp⟩⟩
 | t::l,n,h0,h1=>by
  simp only [dw]
  split
  ·rename_i hc
   obtain⟨a1,a2,a3,a4⟩:=kQ (t:=t) h0
   obtain⟨b1,b2,b3⟩:=jH l (n:=cy t n) a3 a1
   have:=a2 hc
   refine⟨b1,by omega,fun hw=> ?_⟩
   obtain⟨c1,c2⟩:=b3 hw
   have:=a4 (by omega)
   refine⟨by simp only [List.length_cons];omega,fun s m=> ?_⟩
   rcases List.mem_cons.1 m with rfl | m
   ·omega
   ·exact c2 s m
  ·exact⟨h1,Int.le_refl _,fun hw=>by omega⟩
theorem wu : ∀ (l:List Pm) {n:Int},0≤n→n≤20001→jh l n≤20001∧n≤jh l n∧(jh l n≤20000→n+l.length≤jh l n∧∀ t∈l,t.name.length<4611686018427387904)
 | [],n,h0,h1=>by simp only [jh];exact⟨h1,Int.le_refl _,fun _=>⟨by simp,by simp⟩⟩
 | t::l,n,h0,h1=>by
  simp only [jh]
  split
  ·rename_i hc
   obtain⟨a1,a2,a3,a4⟩:=kQ (t:=t.name) h0
   obtain⟨b1,b2,b3⟩:=wu l (n:=cy t.name n) a3 a1
   have:=a2 hc
   refine⟨b1,by omega,fun hw=> ?_⟩
   obtain⟨c1,c2⟩:=b3 hw
   have:=a4 (by omega)
   refine⟨by simp only [List.length_cons];omega,fun s m=> ?_⟩
   rcases List.mem_cons.1 m with rfl | m
   ·omega
   ·exact c2 s m
  ·exact⟨h1,Int.le_refl _,fun hw=>by omega⟩
theorem wv : ∀ (l:List Ar) {n:Int},0≤n→n≤20001→gF l n≤20001∧n≤gF l n∧
 (gF l n≤20000→(Ar.aY l:Int)≤2*(gF l n - n)∧∀ a∈l,a.x.size<4611686018427387904∧a.x.texts∧a.name.length<4611686018427387904)
 | [],n,h0,h1=>by simp only [gF];exact⟨h1,Int.le_refl _,fun _=>⟨by simp [Ar.aY],by simp⟩⟩
 | a::l,n,h0,h1=>by
  simp only [gF]
  split
  ·rename_i hc
   obtain⟨a1,a2,a3,a4⟩:=sU _ a.x (Nat.le_refl _) n h0
   obtain⟨e1,e2,e3,e4⟩:=kQ (t:=a.name) a3
   obtain⟨b1,b2,b3⟩:=wv l (n:=cy a.name (ej a.x n)) e3 e1
   have:=a2 hc
   have:ej a.x n≤cy a.name (ej a.x n):=by
    by_cases h:ej a.x n≤20000
    ·have:=e2 h;omega
    ·have:cy a.name (ej a.x n)=20001:=by unfold cy;rw [if_pos (by omega)]
     omega
   refine⟨b1,by omega,fun hw=> ?_⟩
   obtain⟨c1,c2⟩:=b3 hw
   have:=e4 (by omega)
   obtain⟨d1,d2⟩:=a4 (by omega)
   refine⟨by simp only [Ar.aY];omega,fun s m=> ?_⟩
   rcases List.mem_cons.1 m with rfl | m
   ·exact⟨by omega,d2,by omega⟩
   ·exact c2 s m
  ·exact⟨h1,Int.le_refl _,fun hw=>by omega⟩
theorem jP {t:aB} {n:Int} (h0:0≤n) (h1:n≤20001):n≤cy t n∧cy t n≤20001∧(cy t n≤20000→n+1≤cy t n∧t.length<4611686018427387904):=by
 obtain⟨e1,e2,e3,e4⟩:=kQ (t:=t) h0
 by_cases h:n≤20000
 ·have:=e2 h
  exact⟨by omega,e1,fun hw=>⟨by omega,by have:=e4 hw;omega⟩⟩
 ·have:cy t n=20001:=by unfold cy;rw [if_pos (by omega)]
  exact⟨by omega,e1,fun hw=>by omega⟩
mutual
theorem Dp : ∀ (s:Sm) {n:Int},0≤n→n≤20000→pF s n≤20001∧n+1≤pF s n∧(pF s n≤20000→(s.size:Int)+1≤2*(pF s n - n)∧s.tL)
 | ⟨id,kind,labels,name,proc,x,has,args,a7,aW⟩,n,h0,h1=>by
  obtain⟨a1,a2,a3,a4⟩:=sU _ x (Nat.le_refl _) n h0
  have a2:=a2 h1
  obtain⟨b1,b2,b3⟩:=jH labels a3 a1
  obtain⟨c1,c2,c3⟩:=jP (t:=name) (n:=dw labels (ej x n)) (by omega) b1
  obtain⟨d1,d2,d3⟩:=jP (t:=proc) (n:=cy name (dw labels (ej x n))) (by omega) c2
  obtain⟨e1,e2,e3⟩:=wv args (n:=cy proc (cy name (dw labels (ej x n)))) (by omega) d2
  obtain⟨f1,f2,f3⟩:=pG a7 (n:=gF args (cy proc (cy name (dw labels (ej x n))))) (by omega) e1
  obtain⟨g1,g2,g3⟩:=pG aW (n:=eZ a7 (gF args (cy proc (cy name (dw labels (ej x n)))))) (by omega) f1
  simp only [pF,Sm.size]
  refine⟨g1,by omega,fun hw=> ?_⟩
  obtain⟨g4,g5⟩:=g3 hw
  obtain⟨f4,f5⟩:=f3 (by omega)
  obtain⟨e4,e5⟩:=e3 (by omega)
  obtain⟨d4,d5⟩:=d3 (by omega)
  obtain⟨c4,c5⟩:=c3 (by omega)
  obtain⟨b4,b5⟩:=b3 (by omega)
  obtain⟨a5,a6⟩:=a4 (by omega)
  have:=Ar.dq args
  refine⟨by omega, ?_⟩
  rw [zI]
  exact⟨⟨b5,by dsimp only;omega,c5,d5,by dsimp only;omega,a6,by dsimp only;omega,e5⟩,f5,g5⟩
theorem pG : ∀ (l:List Sm) {n:Int},0≤n→n≤20001→eZ l n≤20001∧n≤eZ l n∧(eZ l n≤20000→(Sm.aY l:Int)≤2*(eZ l n - n)∧Sm.jc l)
 | [],n,h0,h1=>by simp only [eZ];exact⟨h1,Int.le_refl _,fun _=>⟨by simp [Sm.aY],by simp only [Sm.jc]⟩⟩
 | s::l,n,h0,h1=>by
  simp only [eZ]
  split
  ·rename_i hc
   obtain⟨a1,a2,a3⟩:=Dp s h0 hc
   obtain⟨b1,b2,b3⟩:=pG l (n:=pF s n) (by omega) a1
   refine⟨b1,by omega,fun hw=> ?_⟩
   obtain⟨c1,c2⟩:=b3 hw
   obtain⟨d1,d2⟩:=a3 (by omega)
   exact⟨by simp only [Sm.aY];omega,d2,c2⟩
  ·exact⟨h1,Int.le_refl _,fun hw=>by omega⟩
end
theorem Dq (f:Pc) {n:Int} (h0:0≤n) (h1:n≤20000):qX f n≤20001∧n+1≤qX f n∧(qX f n≤20000→(f.size:Int)+1≤2*(qX f n - n)∧
 (f.name.length<4611686018427387904∧(∀ t∈f.vars,t.length<4611686018427387904)∧(∀ t∈f.fin,t.length<4611686018427387904)∧∀ a∈f.params,a.name.length<4611686018427387904)∧Sm.jc f.body):=by
 obtain⟨c1,c2,c3⟩:=jP (t:=f.name) h0 (by omega:n≤20001)
 have c4:=(kQ (t:=f.name) h0).2.1 h1
 obtain⟨d1,d2,d3⟩:=jH f.vars (n:=cy f.name n) (by omega) c2
 obtain⟨e1,e2,e3⟩:=jH f.fin (n:=dw f.vars (cy f.name n)) (by omega) d1
 obtain⟨g1,g2,g3⟩:=wu f.params (n:=dw f.fin (dw f.vars (cy f.name n))) (by omega) e1
 obtain⟨k1,k2,k3⟩:=pG f.body (n:=jh f.params (dw f.fin (dw f.vars (cy f.name n)))) (by omega) g1
 unfold qX Pc.size
 refine⟨k1,by omega,fun hw=> ?_⟩
 obtain⟨k4,k5⟩:=k3 hw
 obtain⟨g4,g5⟩:=g3 (by omega)
 obtain⟨e4,e5⟩:=e3 (by omega)
 obtain⟨d4,d5⟩:=d3 (by omega)
 obtain⟨_,c5⟩:=c3 (by omega)
 exact⟨by omega,⟨c5,d5,e5,g5⟩,k5⟩
theorem Bl : ∀ (l:List Pc) {n:Int},0≤n→n≤20001→lN l n≤20001∧n≤lN l n∧(lN l n≤20000→(Pc.aY l:Int)≤2*(lN l n - n)∧∀ f∈l,
 (f.name.length<4611686018427387904∧(∀ t∈f.vars,t.length<4611686018427387904)∧(∀ t∈f.fin,t.length<4611686018427387904)∧∀ a∈f.params,a.name.length<4611686018427387904)∧Sm.jc f.body)
 | [],n,h0,h1=>by simp only [lN];exact⟨h1,Int.le_refl _,fun _=>⟨by simp [Pc.aY],by simp⟩⟩
 | f::l,n,h0,h1=>by
  simp only [lN]
  split
  ·rename_i hc
   obtain⟨a1,a2,a3⟩:=Dq f h0 hc
   obtain⟨b1,b2,b3⟩:=Bl l (n:=qX f n) (by omega) a1
   refine⟨b1,by omega,fun hw=> ?_⟩
   obtain⟨c1,c2⟩:=b3 hw
   obtain⟨d1,d2⟩:=a3 (by omega)
   refine⟨by simp only [Pc.aY];omega,fun s m=> ?_⟩
   rcases List.mem_cons.1 m with rfl | m
   ·exact d2
   ·exact c2 s m
  ·exact⟨h1,Int.le_refl _,fun hw=>by omega⟩
theorem Km {p:Pg} (h:p.yy≤20000):p.size≤40001∧p.D9:=by
 unfold Pg.yy at h
 obtain⟨a1,a2,a3⟩:=jH p.globals (n:=0) (by omega) (by omega)
 obtain⟨b1,b2,b3⟩:=Bl p.procs (n:=dw p.globals 0) (by omega) a1
 obtain⟨c1,c2⟩:=b3 h
 obtain⟨d1,d2⟩:=a3 (by omega)
 have:p.size≤40001:=by unfold Pg.size;omega
 exact⟨this,by omega,d2,fun f m=>(c2 f m).1,fun f m=>(c2 f m).2⟩
theorem uc {l:List aB} {n:Int} (h0:0≤n) (h1:n≤20001) (s:St):aD Tryz.prog ik [.slice .shared 1 (l.map encStr), .int .i64 n] s (.int .i64 (dw l n)) s:=by
 refine aD.pure ?_ (by simp [D.bH,D.ok,eH,Tag.ok]) rfl s
 unfold S0
 generalize h:dw l n=p
 refine aD.go wU rfl fun B Q hB hQ=> ?_
 have⟨hF,hP,hY,hZ⟩:=bt
 repeat' (first
 | simp only [go_sem,hF,hP,hY,hZ]
 | (with_reducible refine aH hQ ?_;simp only [az,aA,Option.some.injEq,exists_eq_left',go_sem,hF,hP,hY,hZ];repeat' (first | exact Ok.out | with_reducible refine aE ?_ ?_ | (simp;done))))
 refine cM 0 0 (bm.ind (ι:=List aB×Nat×Int) (fun i=>l.drop i.2.1=i.1∧dw i.1 i.2.2=p∧(i.2.1:Int)≤i.2.2∧i.2.2≤20001) (fun i=>i.1.length)
  (fun i=> [(0, .slice .shared 1 (l.map encStr)),(1, .int .i64 i.2.2),(5, .int .i64 (i.2.1:Int))]) (fun i=>⟨[],[]⟩) ?_ (l,0,n) ⟨rfl,h,h0,h1⟩)
 rintro⟨rest,k,c⟩ ⟨g1,h,g3,g4⟩ IH
 dsimp only at g1 h g3 g4
 cases rest with
 | nil=>
  have hF:=drop_nil g1
  simp only [dw]at h
  subst h
  repeat' (first
 | simp only [go_sem,hF,hP,hY,hZ]
 | (with_reducible refine aH hQ ?_;simp only [az,aA,Option.some.injEq,exists_eq_left',go_sem,hF,hP,hY,hZ];repeat' (first | exact Ok.out | with_reducible refine aE ?_ ?_ | (simp;done))))
 | cons y rest=>
  obtain⟨hP,g2,hF,g5⟩:=drop_cons g1
  simp only [dw]at h
  by_cases hc:c≤20000
  ·have c1:decide (c≤20000)=true:=by simp;omega
   have hy:=fun s=>oG y (n:=c) (by omega) g4 s
   obtain⟨a1,a2,a3,a4⟩:=kQ (t:=y) (n:=c) (by omega)
   have:=a2 hc
   have w3:IntKind.wrap .i64 ((k:Int)+1)=((k+1:Nat):Int):=by rw [cY] <;> omega
   rw [if_pos hc]at h
   repeat' (first
 | simp only [go_sem,hF,hP,hY,hZ,c1,w3]
 | (with_reducible refine CU (hy _) ?_)
 | (with_reducible refine aH hQ ?_;simp only [az,aA,Option.some.injEq,exists_eq_left',go_sem,hF,hP,hY,hZ];repeat' (first | exact Ok.out | with_reducible refine aE ?_ ?_ | (simp;done))))
   refine cM 0 0 (IH (rest,k+1,cy y c) ⟨g2,h,by dsimp only;omega,a1⟩ (Nat.lt_succ_self _))
  ·have c1:decide (c≤20000)=false:=by simp;omega
   rw [if_neg hc]at h
   subst h
   repeat' (first
 | simp only [go_sem,hF,hP,hY,hZ,c1]
 | (with_reducible refine aH hQ ?_;simp only [az,aA,Option.some.injEq,exists_eq_left',go_sem,hF,hP,hY,hZ];repeat' (first | exact Ok.out | with_reducible refine aE ?_ ?_ | (simp;done))))
theorem Nd : ∀ (m:Nat) (l:List Sm),Sm.aY l≤m→∀ {n:Int},0≤n→n≤20001→∀ s:St,aD Tryz.prog jv [.slice .shared 13 (l.map bc), .int .i64 n] s (.int .i64 (eZ l n)) s:=by
 intro m
 induction m with
 | zero=>
  intro l h n h0 h1 s
  cases l with
  | nil=>
   have z:decide ((0:Int)<0)=false:=rfl
   refine aD.pure ?_ (by simp [D.bH,D.ok,D.iE,Tag.ok]) rfl s
   unfold S0
   simp only [eZ]
   refine aD.go pR rfl fun B Q hB hQ=> ?_
   have⟨hF,hP,hY,hZ⟩:=bt
   repeat' (first
 | simp only [go_sem,hF,hP,hY,hZ,z]
 | (with_reducible refine bm.tx ?_)
 | (with_reducible refine aH hQ ?_;simp only [az,aA,Option.some.injEq,exists_eq_left',go_sem,hF,hP,hY,hZ];repeat' (first | exact Ok.out | with_reducible refine aE ?_ ?_ | (simp;done))))
  | cons s l=>simp only [Sm.aY]at h;omega
 | succ m ih=>
  intro l h n h0 h1 s
  refine aD.pure ?_ (by simp [D.bH,D.ok,mR,Tag.ok]) rfl s
  unfold S0
  generalize hp:eZ l n=p
  refine aD.go pR rfl fun B Q hB hQ=> ?_
  have⟨hF,hP,hY,hZ⟩:=bt
  repeat' (first
 | simp only [go_sem,hF,hP,hY,hZ]
 | (with_reducible refine aH hQ ?_;simp only [az,aA,Option.some.injEq,exists_eq_left',go_sem,hF,hP,hY,hZ];repeat' (first | exact Ok.out | with_reducible refine aE ?_ ?_ | (simp;done))))
  refine cM 0 0 (bm.ind (ι:=List Sm×Nat×Int) (fun i=>l.drop i.2.1=i.1∧eZ i.1 i.2.2=p∧(i.2.1:Int)≤i.2.2∧i.2.2≤20001) (fun i=>i.1.length)
   (fun i=> [(0, .slice .shared 13 (l.map bc)),(1, .int .i64 i.2.2),(5, .int .i64 (i.2.1:Int))]) (fun i=>⟨[],[]⟩) ?_ (l,0,n) ⟨rfl,hp,h0,h1⟩)
  rintro⟨rest,k,c⟩ ⟨g1,hp,g3,g4⟩ IH
  dsimp only at g1 hp g3 g4
  cases rest with
  | nil=>
   have hF:=drop_nil g1
   simp only [eZ]at hp
   subst hp
   repeat' (first
 | simp only [go_sem,hF,hP,hY,hZ]
 | (with_reducible refine aH hQ ?_;simp only [az,aA,Option.some.injEq,exists_eq_left',go_sem,hF,hP,hY,hZ];repeat' (first | exact Ok.out | with_reducible refine aE ?_ ?_ | (simp;done))))
  | cons y rest=>
   obtain⟨hP,g2,hF,g5⟩:=drop_cons g1
   simp only [eZ]at hp
   by_cases hc:c≤20000
   ·have c1:decide (c≤20000)=true:=by simp;omega
    have mC:=List.mem_of_getElem? hP
    have er:=Sm.b9 mC
    have aiF:s.aw.length≤s.aw.length∧Sm.aY y.a7<y.size∧Sm.aY y.aW<y.size:=by cases y;simp only [Sm.size];omega
    have w3:IntKind.wrap .i64 ((k:Int)+1)=((k+1:Nat):Int):=by rw [cY] <;> omega
    rw [if_pos hc]at hp
    obtain⟨a1,a2,a3,a4⟩:=sU _ y.x (Nat.le_refl _) c (by omega)
    have a2:=a2 hc
    obtain⟨b1,b2,b3⟩:=jH y.labels a3 a1
    obtain⟨c1',c2,c3⟩:=jP (t:=y.name) (n:=dw y.labels (ej y.x c)) (by omega) b1
    obtain⟨d1,d2,d3⟩:=jP (t:=y.proc) (n:=cy y.name (dw y.labels (ej y.x c))) (by omega) c2
    have eE:=fun s=>F2 _ y.x (Nat.le_refl _) (n:=c) (by omega) hc s
    have eL:=fun s=>uc (l:=y.labels) (n:=ej y.x c) (by omega) a1 s
    have eN:=fun s=>oG y.name (n:=dw y.labels (ej y.x c)) (by omega) b1 s
    have eP:=fun s=>oG y.proc (n:=cy y.name (dw y.labels (ej y.x c))) (by omega) c2 s
    obtain⟨r1,r2,r3⟩:=Dp y (n:=c) (by omega) hc
    rw [Nc]at hp r1 r2
    generalize hC:cy y.proc (cy y.name (dw y.labels (ej y.x c)))=C at *
    obtain⟨s1,s2,s3⟩:=wv y.args (n:=C) (by omega) d2
    obtain⟨t1,t2,t3⟩:=pG y.a7 (n:=gF y.args C) (by omega) s1
    have eT:=fun s=>ih y.a7 (by omega) (n:=gF y.args C) (by omega) s1 s
    have eS:=fun s=>ih y.aW (by omega) (n:=eZ y.a7 (gF y.args C)) (by omega) t1 s
    generalize hW:gF y.args C=W at *
    repeat' (first
 | simp only [go_sem,hF,hP,hY,hZ,c1,w3]
 | (with_reducible refine CU (eE _) ?_)
 | (with_reducible refine CU (eL _) ?_)
 | (with_reducible refine CU (eN _) ?_)
 | (with_reducible refine CU (eP _) ?_)
 | (with_reducible refine aH hQ ?_;simp only [az,aA,Option.some.injEq,exists_eq_left',go_sem,hF,hP,hY,hZ];repeat' (first | exact Ok.out | with_reducible refine aE ?_ ?_ | (simp;done))))
    refine cM 1 0 (bm.ind (ι:=List Ar×Nat×Int) (fun i=>y.args.drop i.2.1=i.1∧gF i.1 i.2.2=W∧(i.2.1:Int)≤i.2.2∧i.2.2≤20001) (fun i=>i.1.length)
     (fun i=> [(0, .slice .shared 13 (l.map bc)),(1, .int .i64 i.2.2),(5, .int .i64 (k:Int)),(6, .ptr 0 0),(7, .int .i64 (i.2.1:Int))]) (fun i=>⟨[bc y],[]⟩) ?_ (y.args,0,C) ⟨rfl,hW,by dsimp only;omega,d2⟩)
    rintro⟨XU,j,e⟩ ⟨k1,hw,k3,k4⟩ AZ
    dsimp only at k1 hw k3 k4
    cases XU with
    | nil=>
     have hF:=drop_nil k1
     simp only [gF]at hw
     subst hw
     repeat' (first
 | simp only [go_sem,hF,hP,hY,hZ,w3]
 | (with_reducible refine CU (eT _) ?_)
 | (with_reducible refine CU (eS _) ?_)
 | (with_reducible refine aH hQ ?_;simp only [az,aA,Option.some.injEq,exists_eq_left',go_sem,hF,hP,hY,hZ];repeat' (first | exact Ok.out | with_reducible refine aE ?_ ?_ | (simp;done))))
     refine cM 0 0 (IH (rest,k+1,eZ y.aW (eZ y.a7 e)) ⟨g2,hp,by dsimp only;omega,r1⟩ (Nat.lt_succ_self _))
    | cons a XU=>
     obtain⟨hP,k2,hF,k5⟩:=drop_cons k1
     simp only [gF]at hw
     by_cases he:e≤20000
     ·have e1:decide (e≤20000)=true:=by simp;omega
      have w4:IntKind.wrap .i64 ((j:Int)+1)=((j+1:Nat):Int):=by rw [cY] <;> omega
      rw [if_pos he]at hw
      obtain⟨u1,u2,u3,u4⟩:=sU _ a.x (Nat.le_refl _) e (by omega)
      have u2:=u2 he
      obtain⟨v1,v2,v3⟩:=jP (t:=a.name) (n:=ej a.x e) u3 u1
      have eX:=fun s=>F2 _ a.x (Nat.le_refl _) (n:=e) (by omega) he s
      have eM:=fun s=>oG a.name (n:=ej a.x e) u3 u1 s
      repeat' (first
 | simp only [go_sem,hF,hP,hY,hZ,e1,w4]
 | (with_reducible refine CU (eX _) ?_)
 | (with_reducible refine CU (eM _) ?_)
 | (with_reducible refine aH hQ ?_;simp only [az,aA,Option.some.injEq,exists_eq_left',go_sem,hF,hP,hY,hZ];repeat' (first | exact Ok.out | with_reducible refine aE ?_ ?_ | (simp;done))))
      refine cM 1 0 (AZ (XU,j+1,cy a.name (ej a.x e)) ⟨k2,hw,by dsimp only;omega,v2⟩ (Nat.lt_succ_self _))
     ·have e1:decide (e≤20000)=false:=by simp;omega
      rw [if_neg he]at hw
      subst hw
      repeat' (first
 | simp only [go_sem,hF,hP,hY,hZ,e1,w3]
 | (with_reducible refine CU (eT _) ?_)
 | (with_reducible refine CU (eS _) ?_)
 | (with_reducible refine aH hQ ?_;simp only [az,aA,Option.some.injEq,exists_eq_left',go_sem,hF,hP,hY,hZ];repeat' (first | exact Ok.out | with_reducible refine aE ?_ ?_ | (simp;done))))
      refine cM 0 0 (IH (rest,k+1,eZ y.aW (eZ y.a7 e)) ⟨g2,hp,by dsimp only;omega,r1⟩ (Nat.lt_succ_self _))
   ·have c1:decide (c≤20000)=false:=by simp;omega
    rw [if_neg hc]at hp
    subst hp
    repeat' (first
 | simp only [go_sem,hF,hP,hY,hZ,c1]
 | (with_reducible refine aH hQ ?_;simp only [az,aA,Option.some.injEq,exists_eq_left',go_sem,hF,hP,hY,hZ];repeat' (first | exact Ok.out | with_reducible refine aE ?_ ?_ | (simp;done))))
end Go.Abs

/-! Fits2 -/

namespace Go.Abs
set_option maxRecDepth 8000
open Go.Proofs
theorem XV (p:Pg) (s:St):aD Tryz.prog uw [.agg (cj p)] s (.bool (decide (p.yy≤20000))) s:=by
 refine aD.pure ?_ (by simp only [D.bH,D.ok,iX];rfl) rfl s
 unfold S0
 generalize hp:p.yy=W
 unfold Pg.yy at hp
 obtain⟨a1,a2,a3⟩:=jH p.globals (n:=0) (by omega) (by omega)
 have eG:=fun s=>uc (l:=p.globals) (n:=0) (by omega) (by omega) s
 refine aD.go Dz rfl fun B Q hB hQ=> ?_
 have⟨hF,hP,hY,hZ⟩:=bt
 repeat' (first
 | simp only [go_sem,hF,hP,hY,hZ]
 | (with_reducible refine CU (eG _) ?_)
 | (with_reducible refine aH hQ ?_;simp only [az,aA,bx,bA,go_sem,hF,hP,hY,hZ];repeat' (first | exact Ok.out | with_reducible refine aE ?_ ?_ | (simp;done))))
 refine cM 1 0 (bm.ind (ι:=List Pc×Nat×Int) (fun i=>p.procs.drop i.2.1=i.1∧lN i.1 i.2.2=W∧(i.2.1:Int)≤i.2.2∧i.2.2≤20001) (fun i=>i.1.length)
  (fun i=> [(1, .ptr 0 0),(3, .int .i64 i.2.2),(4, .int .i64 (i.2.1:Int))]) (fun i=>⟨[cj p],[]⟩) ?_ (p.procs,0,dw p.globals 0) ⟨rfl,hp,a2,a1⟩)
 rintro⟨rest,k,c⟩ ⟨g1,hp,g3,g4⟩ IH
 dsimp only at g1 hp g3 g4
 cases rest with
 | nil=>
  have hF:=drop_nil g1
  simp only [lN]at hp
  subst hp
  repeat' (first
 | simp only [go_sem,hF,hP,hY,hZ]
 | (with_reducible refine aH hQ ?_;simp only [az,aA,bx,bA,go_sem,hF,hP,hY,hZ];repeat' (first | exact Ok.out | with_reducible refine aE ?_ ?_ | (simp;done))))
 | cons f rest=>
  obtain⟨hP,g2,hF,g5⟩:=drop_cons g1
  simp only [lN]at hp
  by_cases hc:c≤20000
  ·have c1:decide (c≤20000)=true:=by simp;omega
   have w3:IntKind.wrap .i64 ((k:Int)+1)=((k+1:Nat):Int):=by rw [cY] <;> omega
   rw [if_pos hc]at hp
   obtain⟨r1,r2,r3⟩:=Dq f (n:=c) (by omega) hc
   unfold qX at hp r1 r2
   obtain⟨c1',c2,c3⟩:=jP (t:=f.name) (n:=c) (by omega) g4
   obtain⟨d1,d2,d3⟩:=jH f.vars (n:=cy f.name c) (by omega) c2
   obtain⟨e1,e2,e3⟩:=jH f.fin (n:=dw f.vars (cy f.name c)) (by omega) d1
   have eN:=fun s=>oG f.name (n:=c) (by omega) g4 s
   have eV:=fun s=>uc (l:=f.vars) (n:=cy f.name c) (by omega) c2 s
   have eF:=fun s=>uc (l:=f.fin) (n:=dw f.vars (cy f.name c)) (by omega) d1 s
   generalize hC:dw f.fin (dw f.vars (cy f.name c))=C at *
   obtain⟨s1,s2,s3⟩:=wu f.params (n:=C) (by omega) e1
   have eT:=fun s=>Nd _ f.body (Nat.le_refl _) (n:=jh f.params C) (by omega) s1 s
   generalize hM:jh f.params C=M at *
   repeat' (first
 | simp only [go_sem,hF,hP,hY,hZ,c1,w3]
 | (with_reducible refine CU (eN _) ?_)
 | (with_reducible refine CU (eV _) ?_)
 | (with_reducible refine CU (eF _) ?_)
 | (with_reducible refine aH hQ ?_;simp only [az,aA,bx,bA,go_sem,hF,hP,hY,hZ];repeat' (first | exact Ok.out | with_reducible refine aE ?_ ?_ | (simp;done))))
   refine cM 2 0 (bm.ind (ι:=List Pm×Nat×Int) (fun i=>f.params.drop i.2.1=i.1∧jh i.1 i.2.2=M∧(i.2.1:Int)≤i.2.2∧i.2.2≤20001) (fun i=>i.1.length)
    (fun i=> [(1, .ptr 0 0),(3, .int .i64 i.2.2),(4, .int .i64 (k:Int)),(5, .ptr 1 0),(6, .int .i64 (i.2.1:Int))]) (fun i=>⟨[cj p,cz f],[]⟩) ?_ (f.params,0,C) ⟨rfl,hM,by dsimp only;omega,e1⟩)
   rintro⟨ms,j,e⟩ ⟨k1,hw,k3,k4⟩ AZ
   dsimp only at k1 hw k3 k4
   cases ms with
   | nil=>
    have hF:=drop_nil k1
    simp only [jh]at hw
    subst hw
    repeat' (first
 | simp only [go_sem,hF,hP,hY,hZ,w3]
 | (with_reducible refine CU (eT _) ?_)
 | (with_reducible refine aH hQ ?_;simp only [az,aA,bx,bA,go_sem,hF,hP,hY,hZ];repeat' (first | exact Ok.out | with_reducible refine aE ?_ ?_ | (simp;done))))
    refine cM 1 0 (IH (rest,k+1,eZ f.body e) ⟨g2,hp,by dsimp only;omega,r1⟩ (Nat.lt_succ_self _))
   | cons a ms=>
    obtain⟨hP,k2,hF,k5⟩:=drop_cons k1
    simp only [jh]at hw
    by_cases he:e≤20000
    ·have e1:decide (e≤20000)=true:=by simp;omega
     have w4:IntKind.wrap .i64 ((j:Int)+1)=((j+1:Nat):Int):=by rw [cY] <;> omega
     rw [if_pos he]at hw
     obtain⟨v1,v2,v3⟩:=jP (t:=a.name) (n:=e) (by omega) k4
     have v4:=(kQ (t:=a.name) (n:=e) (by omega)).2.1 he
     have eM:=fun s=>oG a.name (n:=e) (by omega) k4 s
     repeat' (first
 | simp only [go_sem,hF,hP,hY,hZ,e1,w4]
 | (with_reducible refine CU (eM _) ?_)
 | (with_reducible refine aH hQ ?_;simp only [az,aA,bx,bA,go_sem,hF,hP,hY,hZ];repeat' (first | exact Ok.out | with_reducible refine aE ?_ ?_ | (simp;done))))
     refine cM 2 0 (AZ (ms,j+1,cy a.name e) ⟨k2,hw,by dsimp only;omega,v2⟩ (Nat.lt_succ_self _))
    ·have e1:decide (e≤20000)=false:=by simp;omega
     rw [if_neg he]at hw
     subst hw
     repeat' (first
 | simp only [go_sem,hF,hP,hY,hZ,e1,w3]
 | (with_reducible refine CU (eT _) ?_)
 | (with_reducible first | refine bB fun hc=> ?_ | refine bC fun hc=> ?_ | refine bD (fun hc=> ?_) fun hc=> ?_) <;> (try simp only [hc,bs, ↓reduceIte]at h) <;> try simp only [hc]
 | (with_reducible refine aH hQ ?_;simp only [az,aA,bx,bA,go_sem,hF,hP,hY,hZ,e1,w3];repeat' (first | exact Ok.out | with_reducible refine aE ?_ ?_ | (simp;done))))
     refine cM 1 0 (IH (rest,k+1,eZ f.body e) ⟨g2,hp,by dsimp only;omega,r1⟩ (Nat.lt_succ_self _))
  ·have c1:decide (c≤20000)=false:=by simp;omega
   rw [if_neg hc]at hp
   subst hp
   repeat' (first
 | simp only [go_sem,hF,hP,hY,hZ,c1]
 | (with_reducible first | refine bB fun hc=> ?_ | refine bC fun hc=> ?_ | refine bD (fun hc=> ?_) fun hc=> ?_) <;> (try simp only [hc,bs, ↓reduceIte]at h) <;> try simp only [hc]
 | (with_reducible refine aH hQ ?_;simp only [az,aA,bx,bA,go_sem,hF,hP,hY,hZ,c1];repeat' (first | exact Ok.out | with_reducible refine aE ?_ ?_ | (simp;done))))
end Go.Abs

/-! MirEq -/

namespace Go.Abs
def XW:List aB→List aB→Bool
 | [],_=>true
 | _::_,[]=>true
 | x::l,y::l'=>if !(x==y)then false else XW l l'
def SP (l l':List aB):Bool:=if(l.length:Int) != (l'.length:Int)then false else XW l l'
def Ar.nX:List Ar→List Ar→Bool
 | [],_=>true
 | _::_,[]=>true
 | a::l,b::l'=>if !(a.ref==b.ref) || !(a.name==b.name) || !(Ex.beq a.x b.x)then false else Ar.nX l l'
mutual
def Sm.beq:Sm→Sm→Bool
 | ⟨id,kind,labels,name,proc,x,has,args,a7,aW⟩,⟨id',aaP,Uz,JJ,rY,x',ai4,Al,XX,XY⟩=>
  if id != id' || kind != aaP || !(name==JJ) || !(proc==rY) || !(has==ai4) || !(SP labels Uz) || !(Ex.beq x x') || (args.length:Int) != (Al.length:Int)then false
  else if !(Ar.nX args Al)then false
  else if(if(a7.length:Int) != (XX.length:Int)then false else Sm.nX a7 XX)then(if(aW.length:Int) != (XY.length:Int)then false else Sm.nX aW XY)else false
def Sm.nX:List Sm→List Sm→Bool
 | [],_=>true
 | _::_,[]=>true
 | s::l,t::l'=>if !(Sm.beq s t)then false else Sm.nX l l'
end
def Sm.XZ (l l':List Sm):Bool:=if(l.length:Int) != (l'.length:Int)then false else Sm.nX l l'
def Pm.nX:List Pm→List Pm→Bool
 | [],_=>true
 | _::_,[]=>true
 | a::l,b::l'=>if !((a.name==b.name) && (a.ref==b.ref))then false else Pm.nX l l'
def Pc.nX:List Pc→List Pc→Bool
 | [],_=>true
 | _::_,[]=>true
 | f::l,g::l'=>
  if !(f.name==g.name) || (f.params.length:Int) != (g.params.length:Int) || !(SP f.vars g.vars) || !(SP f.fin g.fin) || !(Sm.XZ f.body g.body)then false
  else if !(Pm.nX f.params g.params)then false else Pc.nX l l'
def Pg.beq (p q:Pg):Bool:=if !(SP p.globals q.globals) || (p.procs.length:Int) != (q.procs.length:Int)then false else Pc.nX p.procs q.procs
end Go.Abs

/-! RefEq -/

namespace Go.Abs
set_option maxRecDepth 8000
open Go.Proofs
abbrev ajl (N:Nat):Prop:=∀ s t:Sm,s.size<N→∀ st:St,aD Tryz.prog Fa [.agg (bc s), .agg (bc t)] st (.bool (Sm.beq s t)) st
abbrev aqC (N:Nat):Prop:=∀ l l':List Sm,Sm.aY l<N→∀ st:St,aD Tryz.prog BN [.slice .shared 13 (l.map bc), .slice .shared 13 (l'.map bc)] st (.bool (Sm.XZ l l')) st
end Go.Abs

/-! RefEq2 -/

namespace Go.Abs
set_option maxRecDepth 8000
open Go.Proofs
def ud (n:Int):Ex:=⟨1,n,[],[]⟩
def jd (s:aB):Ex:=⟨2,0,s,[]⟩
def qA (op:Int) (a b:Ex):Ex:=⟨op,0,[],[a,b]⟩
theorem aaQ (n:Int) (s:St):aD Tryz.prog pb [.int .i64 n] s (.agg (bp (ud n))) s:=by
 refine aD.pure ?_ rfl (by simp [D.ok,gw]) s
 unfold S0
 refine aD.go Ff rfl fun B Q hB hQ=> ?_
 have⟨hF,hP,hY,hZ⟩:=bt
 repeat' (first
 | simp only [go_sem,hF,hP,hY,hZ,ud]
 | (with_reducible first | refine bB fun hc=> ?_ | refine bC fun hc=> ?_ | refine bD (fun hc=> ?_) fun hc=> ?_) <;> (try simp only [hc,bs, ↓reduceIte]at h) <;> try simp only [hc]
 | (with_reducible refine aH hQ ?_;simp only [az,aA,bx,bA,go_sem,hF,hP,hY,hZ,ud];repeat' (first | exact Ok.out | with_reducible refine aE ?_ ?_ | (simp;done))))
theorem Kn (t:aB) (s:St):aD Tryz.prog jL [.str t] s (.agg (bp (jd t))) s:=by
 refine aD.pure ?_ rfl (by simp [D.ok,gw]) s
 unfold S0
 refine aD.go DE rfl fun B Q hB hQ=> ?_
 have⟨hF,hP,hY,hZ⟩:=bt
 repeat' (first
 | simp only [go_sem,hF,hP,hY,hZ,jd]
 | (with_reducible first | refine bB fun hc=> ?_ | refine bC fun hc=> ?_ | refine bD (fun hc=> ?_) fun hc=> ?_) <;> (try simp only [hc,bs, ↓reduceIte]at h) <;> try simp only [hc]
 | (with_reducible refine aH hQ ?_;simp only [az,aA,bx,bA,go_sem,hF,hP,hY,hZ,jd];repeat' (first | exact Ok.out | with_reducible refine aE ?_ ?_ | (simp;done))))
theorem Nf (op:Int) (a b:Ex) (s:St):aD Tryz.prog rO [.int .i64 op, .agg (bp a), .agg (bp b)] s (.agg (bp (qA op a b))) s:=by
 refine aD.pure ?_ (by simp [D.bH,D.ok,gw]) (by simp [D.ok,gw]) s
 unfold S0
 refine aD.go Fg rfl fun B Q hB hQ=> ?_
 have⟨hF,hP,hY,hZ⟩:=bt
 repeat' (first
 | simp only [go_sem,hF,hP,hY,hZ,qA]
 | (with_reducible first | refine bB fun hc=> ?_ | refine bC fun hc=> ?_ | refine bD (fun hc=> ?_) fun hc=> ?_) <;> (try simp only [hc,bs, ↓reduceIte]at h) <;> try simp only [hc]
 | (with_reducible refine aH hQ ?_;simp only [az,aA,bx,bA,go_sem,hF,hP,hY,hZ,qA];repeat' (first | exact Ok.out | with_reducible refine aE ?_ ?_ | (simp;done))))
def source:aB:= [103,108,111,98,97,108,32,103,59,10,112,114,111,99,32,109,97,105,110,40,41,32,123,10,32,118,97,114,32,118,59,10,32,118,32,61,32,50,59,10,32,103,32,61,32,112,40,51,44,32,114,101,102,32,118,41,59,10,32,112,114,105,110,116,32,118,59,10,32,112,114,105,110,116,32,103,59,10,125,10,112,114,111,99,32,112,40,120,44,32,114,101,102,32,121,41,32,123,10,32,121,32,61,32,121,32,43,32,120,59,10,32,105,102,32,40,121,32,62,32,57,41,32,123,10,32,32,103,111,116,111,32,101,59,10,32,125,10,32,114,101,116,117,114,110,32,121,59,10,101,58,32,125,10]
theorem Qs (s:St):aD Tryz.prog ra [] s (.str source) s:=by
 refine aD.pure ?_ rfl rfl s
 unfold S0
 refine aD.go AA rfl fun B Q hB hQ=> ?_
 have⟨hF,hP,hY,hZ⟩:=bt
 repeat' (first
 | simp only [go_sem,hF,hP,hY,hZ,source]
 | (with_reducible first | refine bB fun hc=> ?_ | refine bC fun hc=> ?_ | refine bD (fun hc=> ?_) fun hc=> ?_) <;> (try simp only [hc,bs, ↓reduceIte]at h) <;> try simp only [hc]
 | (with_reducible refine aH hQ ?_;(try cases h);simp only [az,aA,bx,bA,go_sem,hF,hP,hY,hZ,source];try exact Aq)
 | (cases h;done))
def nS:Pg:=⟨[[103]],[
 ⟨[109,97,105,110],[],[[118]],[
  ⟨1,1,[],[118],[],ud 2,false,[],[],[]⟩,
  ⟨2,4,[],[103],[112],la,false,[⟨false,[],ud 3⟩,⟨true,[118],la⟩],[],[]⟩,
  ⟨3,3,[],[],[],jd [118],false,[],[],[]⟩,
  ⟨4,3,[],[],[],jd [103],false,[],[],[]⟩],[]⟩,
 ⟨[112],[⟨[120],false⟩,⟨[121],true⟩],[],[
  ⟨5,1,[],[121],[],qA 8 (jd [121]) (jd [120]),false,[],[],[]⟩,
  ⟨6,5,[],[],[],qA 12 (jd [121]) (ud 9),false,[],[⟨7,10,[],[101],[],la,false,[],[],[]⟩],[]⟩,
  ⟨8,9,[],[],[],jd [121],true,[],[],[]⟩],[[101]]⟩]⟩
theorem X0 (s:St):aD Tryz.prog ux [] s (.agg (cj nS)) s:=by
 refine aD.pure ?_ rfl (by simp [D.ok,iX]) s
 unfold S0
 refine aD.go DB rfl fun B Q hB hQ=> ?_
 have⟨hF,hP,hY,hZ⟩:=bt
 repeat' (first
 | simp only [go_sem,hF,hP,hY,hZ,nS]
 | (with_reducible refine CU (aaQ _ _) ?_)
 | (with_reducible refine CU (Kn _ _) ?_)
 | (with_reducible refine CU (Nf _ _ _ _) ?_)
 | (with_reducible refine aH hQ ?_;simp only [az,aA,Option.some.injEq,exists_eq_left',go_sem,hF,hP,hY,hZ];repeat' (first | exact Ok.out | with_reducible refine aE ?_ ?_ | (simp;done))))
 repeat' (first | exact Ok.out | with_reducible refine Wk.agg ?_ | with_reducible refine Wk.rows ?_ | with_reducible refine Wk.slice ?_ | with_reducible refine gH.cons ?_ ?_ | with_reducible refine lu.cons ?_ ?_)
end Go.Abs

/-! LawTo1 -/

namespace Go.Abs
open Go.Proofs
def Pg.apT (p:Pg) (n:Int):aB:=match p.procs[(XP n p.procs.length).toNat]? with | some f=>f.name | none=> []
end Go.Abs

/-! AlP -/

namespace Go.Abs
open Go.Proofs
theorem X1:Au.jO:=⟨xZ (by decide +kernel) (by decide +kernel),by decide +kernel⟩
end Go.Abs

/-! LawAl2 -/

namespace Go.Abs
open Go.Proofs
end Go.Abs

/-! SwP -/

namespace Go.Abs
section
variable {a b:aB}
end
section
variable {a b:aB} (ha:isName a=true) (hb:isName b=true)
include ha hb
end
def Pg.check (p:Pg):Int×Int:=if p.scope.1==0 then(if p.arity.1==0 then(if p.jump.1==0 then p.alias else p.jump)else p.arity)else p.scope
end Go.Abs

/-! Ck1 -/

namespace Go.Abs
set_option maxRecDepth 8000
open Go.Proofs
theorem UA : ∀ n,n<1000000000→∀ l:List Sm,Sm.aY l<n→aD Tryz.prog iZ [.slice .shared 13 (l.map bc)] S0 (.int .i64 (Sm.dQ l:Int)) S0:=by
 intro n
 induction n with
 | zero=>intro _ l h;omega
 | succ n ih=>
 intro hn l hv
 have hl:=Sm.dq l
 have hk : ∀ y∈l,(∀ s,aD Tryz.prog iZ [.slice .shared 13 (y.a7.map bc)] s (.int .i64 (Sm.dQ y.a7:Int)) s)∧(∀ s,aD Tryz.prog iZ [.slice .shared 13 (y.aW.map bc)] s (.int .i64 (Sm.dQ y.aW:Int)) s)∧
  y.gJ=1+Sm.dQ y.a7+Sm.dQ y.aW:=fun y hy=>by
  have h1:=Sm.b9 hy
  have er:Sm.aY y.a7<y.size∧Sm.aY y.aW<y.size∧y.gJ=1+Sm.dQ y.a7+Sm.dQ y.aW:=by
   obtain⟨_,_,_,_,_,_,_,_,_,_⟩:=y
   simp only [Sm.size];exact⟨by omega,by omega,rfl⟩
  exact⟨fun s=>(ih (by omega) y.a7 (by omega)).pure (by simp only [D.bH,D.ok,Tag.ok,mR];rfl) rfl s,fun s=>(ih (by omega) y.aW (by omega)).pure (by simp only [D.bH,D.ok,Tag.ok,mR];rfl) rfl s,er.2.2⟩
 have oZ:=jK l
 unfold S0
 refine aD.go BY rfl fun B Q hB hQ=> ?_
 have⟨hF,hP,hY,hZ⟩:=bt
 repeat' (first
 | simp only [go_sem,hF,hP,hY,hZ]
 | (with_reducible refine aH hQ ?_;simp only [az,aA,Option.some.injEq,exists_eq_left',go_sem,hF,hP,hY,hZ];repeat' (first | exact Ok.out | with_reducible refine aE ?_ ?_ | (simp;done))))
 refine cM 0 0 (bm.ind (ι:=List Sm×Nat×Nat) (fun i=>l.drop i.2.1=i.1∧i.2.2+Sm.dQ i.1=Sm.dQ l+i.1.length) (fun i=>i.1.length)
  (fun i=> [(0, .slice .shared 13 (l.map bc)),(3, .int .i64 (i.2.2:Int)),(7, .slice .shared 13 (l.map bc)),(8, .int .i64 (l.length:Int)),(9, .int .i64 (i.2.1:Int))]) (fun i=>⟨[],[]⟩) ?_ (l,0,l.length) ⟨rfl,Nat.add_comm _ _⟩)
 rintro⟨rest,k,c⟩ ⟨g1,g2⟩ IH
 dsimp only at g1 g2
 cases rest with
 | nil=>
  have hF:=drop_nil g1
  simp only [Sm.dQ,Nat.add_zero,List.length_nil]at g2
  subst g2
  repeat' (first
 | simp only [go_sem,hF,hP,hY,hZ]
 | (with_reducible refine aH hQ ?_;simp only [az,aA,Option.some.injEq,exists_eq_left',go_sem,hF,hP,hY,hZ];repeat' (first | exact Ok.out | with_reducible refine aE ?_ ?_ | (simp;done))))
 | cons y rest=>
  obtain⟨hP,g3,hF,g4⟩:=drop_cons g1
  obtain⟨hy1,hy2,hy3⟩:=hk y (List.mem_of_getElem? hP)
  simp only [Sm.dQ,List.length_cons]at g2
  have KS:=Sm.b9 (List.mem_of_getElem? hP)
  have Hb:rest.length≤l.length:=by have:=congrArg List.length g1;simp only [List.length_drop,List.length_cons]at this;omega
  have w1:IntKind.wrap .i64 ((k:Int)+1)=((k+1:Nat):Int):=by rw [cY] <;> omega
  have w2:IntKind.wrap .i64 ((Sm.dQ y.a7:Int)+(Sm.dQ y.aW:Int))=((Sm.dQ y.a7+Sm.dQ y.aW:Nat):Int):=by rw [cY] <;> omega
  have w3:IntKind.wrap .i64 ((c:Int)+((Sm.dQ y.a7+Sm.dQ y.aW:Nat):Int))=((c+(Sm.dQ y.a7+Sm.dQ y.aW):Nat):Int):=by rw [cY] <;> omega
  repeat' (first
 | simp only [go_sem,hF,hP,hY,hZ,w1,w2,w3]
 | (with_reducible refine CU (hy1 _) ?_)
 | (with_reducible refine CU (hy2 _) ?_)
 | (with_reducible refine aH hQ ?_;simp only [az,aA,Option.some.injEq,exists_eq_left',go_sem,hF,hP,hY,hZ];repeat' (first | exact Ok.out | with_reducible refine aE ?_ ?_ | (simp;done))))
  refine cM 0 0 (IH (rest,k+1,c+(Sm.dQ y.a7+Sm.dQ y.aW)) ⟨g3,by dsimp only;omega⟩ (Nat.lt_succ_self _))
theorem UB {l:List Sm} (h:Sm.aY l+1<1000000000) (s:St):aD Tryz.prog iZ [.slice .shared 13 (l.map bc)] s (.int .i64 (Sm.dQ l:Int)) s:=
 (UA _ h l (Nat.lt_succ_self _)).pure (by simp only [D.bH,D.ok,Tag.ok,mR];rfl) rfl s
def Pc.wx:List Pc→Nat
 | []=>0
 | f::l=>Sm.dQ f.body+Pc.wx l
theorem HJ : ∀ l:List Pc,Pc.wx l≤Pc.aY l
 | []=>Nat.le_refl _
 | f::l=>by
  have:=HJ l;have:=jK f.body
  simp only [Pc.wx,Pc.aY,Pc.size];omega
theorem UC {p:Pg} (h:p.size+1<1000000000) (s:St):aD Tryz.prog sA [.agg (cj p)] s (.int .i64 (Pc.wx p.procs:Int)) s:=by
 refine aD.pure ?_ (by simp [D.bH,D.ok,iX]) rfl s
 have hs:Pc.aY p.procs+1<1000000000:=by simp only [Pg.size]at h;omega
 have hl:=Pc.dq p.procs
 have hcp:=HJ p.procs
 unfold S0
 refine aD.go BV rfl fun B Q hB hQ=> ?_
 have⟨hF,hP,hY,hZ⟩:=bt
 repeat' (first
 | simp only [go_sem,hF,hP,hY,hZ]
 | (with_reducible refine aH hQ ?_;simp only [az,aA,Option.some.injEq,exists_eq_left',go_sem,hF,hP,hY,hZ];repeat' (first | exact Ok.out | with_reducible refine aE ?_ ?_ | (simp;done))))
 refine cM 1 0 (bm.ind (ι:=List Pc×Nat×Nat) (fun i=>p.procs.drop i.2.1=i.1∧i.2.2+Pc.wx i.1=Pc.wx p.procs) (fun i=>i.1.length)
  (fun i=> [(1, .ptr 0 0),(3, .int .i64 (i.2.2:Int)),(7, .slice .shared 5 (p.procs.map cz)),(8, .int .i64 (p.procs.length:Int)),(9, .int .i64 (i.2.1:Int))]) (fun i=>⟨[cj p],[]⟩) ?_ (p.procs,0,0) ⟨rfl,Nat.zero_add _⟩)
 rintro⟨rest,k,c⟩ ⟨g1,g2⟩ IH
 dsimp only at g1 g2
 cases rest with
 | nil=>
  have hF:=drop_nil g1
  simp only [Pc.wx,Nat.add_zero]at g2
  subst g2
  repeat' (first
 | simp only [go_sem,hF,hP,hY,hZ]
 | (with_reducible refine aH hQ ?_;simp only [az,aA,Option.some.injEq,exists_eq_left',go_sem,hF,hP,hY,hZ];repeat' (first | exact Ok.out | with_reducible refine aE ?_ ?_ | (simp;done))))
 | cons f rest=>
  obtain⟨hP,g3,hF,g4⟩:=drop_cons g1
  have hsf:=Pc.b9 (List.mem_of_getElem? hP)
  simp only [Pc.size]at hsf
  have hc:=fun s=>UB (l:=f.body) (by omega) s
  simp only [Pc.wx]at g2
  have w1:IntKind.wrap .i64 ((k:Int)+1)=((k+1:Nat):Int):=by rw [cY] <;> omega
  have w2:IntKind.wrap .i64 ((c:Int)+(Sm.dQ f.body:Int))=((c+Sm.dQ f.body:Nat):Int):=by rw [cY] <;> omega
  repeat' (first
 | simp only [go_sem,hF,hP,hY,hZ,w1,w2]
 | (with_reducible refine CU (hc _) ?_)
 | (with_reducible refine aH hQ ?_;simp only [az,aA,Option.some.injEq,exists_eq_left',go_sem,hF,hP,hY,hZ];repeat' (first | exact Ok.out | with_reducible refine aE ?_ ?_ | (simp;done))))
  refine cM 1 0 (IH (rest,k+1,c+Sm.dQ f.body) ⟨g3,by dsimp only;omega⟩ (Nat.lt_succ_self _))
theorem F3 {p:Pg} (h:p.may=false):p.scope=(1,0):=by unfold Pg.scope;rw [h];rfl
theorem Bm {p:Pg} (h:p.jO) (s:St):aD Tryz.prog my [.agg (cj p)] s (.agg [.int .i64 p.check.1, .int .i64 p.check.2]) s:=by
 refine aD.pure ?_ (by simp [D.bH,D.ok,iX]) rfl s
 have h1:=fun s=>Ft h.P6 s
 rw [yr]at h1
 have h2:=fun s=>qh h s
 have h3:=fun s=>zL h s
 have h4:=fun s=>FP h s
 have h5:=fun s=>Dn h s
 obtain⟨R,hR⟩ : ∃ R,p.check=R:=⟨_,rfl⟩
 rw [hR]
 unfold Pg.check at hR
 unfold S0
 rcases Bool.eq_false_or_eq_true p.may with b0 | b0
 case inr=>
  have e:((1:Int)==0)=false:=rfl
  rw [F3 b0]at hR
  simp only [e,Bool.false_eq_true,if_false]at hR
  subst hR
  refine aD.go mn rfl fun B Q hB hQ=> ?_
  have⟨hF,hP,hY,hZ⟩:=bt
  repeat' (first
 | simp only [go_sem,hF,hP,hY,hZ,b0,Bool.not_false]
 | (with_reducible refine CU (h1 _) ?_)
 | (with_reducible refine aH hQ ?_;simp only [az,aA,Option.some.injEq,exists_eq_left',go_sem,hF,hP,hY,hZ];repeat' (first | exact Ok.out | with_reducible refine aE ?_ ?_ | (simp;done))))
 rcases Bool.eq_false_or_eq_true (p.scope.1==0)with b1 | b1
 case inr=>
  simp only [b1,Bool.false_eq_true,if_false]at hR
  subst hR
  refine aD.go mn rfl fun B Q hB hQ=> ?_
  have⟨hF,hP,hY,hZ⟩:=bt
  repeat' (first
 | simp only [go_sem,hF,hP,hY,hZ,b0,b1,Bool.not_true]
 | (with_reducible refine CU (h1 _) ?_)
 | (with_reducible refine CU (h2 _) ?_)
 | (with_reducible refine aH hQ ?_;simp only [az,aA,Option.some.injEq,exists_eq_left',go_sem,hF,hP,hY,hZ];repeat' (first | exact Ok.out | with_reducible refine aE ?_ ?_ | (simp;done))))
 simp only [b1,if_true]at hR
 rcases Bool.eq_false_or_eq_true (p.arity.1==0)with b2 | b2
 case inr=>
  simp only [b2,Bool.false_eq_true,if_false]at hR
  subst hR
  refine aD.go mn rfl fun B Q hB hQ=> ?_
  have⟨hF,hP,hY,hZ⟩:=bt
  repeat' (first
 | simp only [go_sem,hF,hP,hY,hZ,b0,b1,b2,Bool.not_true]
 | (with_reducible refine CU (h1 _) ?_)
 | (with_reducible refine CU (h2 _) ?_)
 | (with_reducible refine CU (h3 _) ?_)
 | (with_reducible refine aH hQ ?_;simp only [az,aA,Option.some.injEq,exists_eq_left',go_sem,hF,hP,hY,hZ];repeat' (first | exact Ok.out | with_reducible refine aE ?_ ?_ | (simp;done))))
 simp only [b2,if_true]at hR
 rcases Bool.eq_false_or_eq_true (p.jump.1==0)with b3 | b3
 case inr=>
  simp only [b3,Bool.false_eq_true,if_false]at hR
  subst hR
  refine aD.go mn rfl fun B Q hB hQ=> ?_
  have⟨hF,hP,hY,hZ⟩:=bt
  repeat' (first
 | simp only [go_sem,hF,hP,hY,hZ,b0,b1,b2,b3,Bool.not_true]
 | (with_reducible refine CU (h1 _) ?_)
 | (with_reducible refine CU (h2 _) ?_)
 | (with_reducible refine CU (h3 _) ?_)
 | (with_reducible refine CU (h4 _) ?_)
 | (with_reducible refine aH hQ ?_;simp only [az,aA,Option.some.injEq,exists_eq_left',go_sem,hF,hP,hY,hZ];repeat' (first | exact Ok.out | with_reducible refine aE ?_ ?_ | (simp;done))))
 simp only [b3,if_true]at hR
 subst hR
 refine aD.go mn rfl fun B Q hB hQ=> ?_
 have⟨hF,hP,hY,hZ⟩:=bt
 repeat' (first
 | simp only [go_sem,hF,hP,hY,hZ,b0,b1,b2,b3,Bool.not_true]
 | (with_reducible refine CU (h1 _) ?_)
 | (with_reducible refine CU (h2 _) ?_)
 | (with_reducible refine CU (h3 _) ?_)
 | (with_reducible refine CU (h4 _) ?_)
 | (with_reducible refine CU (h5 _) ?_)
 | (with_reducible refine aH hQ ?_;simp only [az,aA,Option.some.injEq,exists_eq_left',go_sem,hF,hP,hY,hZ];repeat' (first | exact Ok.out | with_reducible refine aE ?_ ?_ | (simp;done))))
theorem Ng {p:Pg} (h:p.jO) (s:St):aD Tryz.prog qt [.agg (cj p)] s (.bool (p.check.1==0)) s:=by
 refine aD.pure ?_ (by simp [D.bH,D.ok,iX]) rfl s
 have h1:=fun s=>Bm h s
 unfold S0
 refine aD.go DA rfl fun B Q hB hQ=> ?_
 have⟨hF,hP,hY,hZ⟩:=bt
 repeat' (first
 | simp only [go_sem,hF,hP,hY,hZ]
 | (with_reducible refine CU (h1 _) ?_)
 | (with_reducible refine aH hQ ?_;simp only [az,aA,Option.some.injEq,exists_eq_left',go_sem,hF,hP,hY,hZ];repeat' (first | exact Ok.out | with_reducible refine aE ?_ ?_ | (simp;done))))
end Go.Abs

/-! Tot -/

namespace Go.Abs
def Tt {α:Type} (o:Option α) (Q:α→Prop):Prop:=∃ a,o=some a∧Q a
structure Rd.Ok (r:Rd):Prop where
 k : ∀ t∈r.l,0≤t.kind∧t.kind≤4
 lt:r.i<r.l.length
 len:r.l.length≤2001
 last : ∀ t,r.l[r.l.length - 1]? = some t→t.kind=0
 n1:r.n≤201
structure Rd.To (r r':Rd):Prop where
 ok:r'.Ok
 l:r'.l=r.l
 i:r.i≤r'.i
 g:r'.good=true→r.good=true
 s:r.good=false→r'=r
structure Rd.ToE (r r':Rd):Prop where
 to:r.To r'
 n:r'.n=r.n
def ExT (r:Rd) (p:Ex×Rd):Prop:=r.ToE p.2∧(p.2.good=true→p.1.size+3+4*r.i≤4*p.2.i)
end Go.Abs

/-! Tot2 -/

namespace Go.Abs
def StT (r:Rd) (p:Sm×Rd):Prop:=r.ToE p.2∧(p.2.good=true→p.1.size+1+8*r.i≤8*p.2.i)
end Go.Abs

/-! Tot3 -/

namespace Go.Abs
structure StQ (r r':Rd):Prop where
 to:r.To r'
 n:r'.good=true→r'.n≤200
def aqD (r:Rd) (p:(List Sm×List aB)×Rd):Prop:=StQ r p.2∧(p.2.good=true→Sm.aY p.1.1+p.1.2.length+8*r.i≤8*p.2.i)
def aqE (t:bJ):Prop:=1≤t.kind∧t.kind≤4
def SQ:Nat:=20000
end Go.Abs

/-! Parsed2 -/

namespace Go.Abs
open Go.Proofs
theorem F4:Bk SQ source=some (nS,0,0):=by kernel_rfl
theorem Ko:source.length<4611686018427387904:=by simp [source]
theorem Dr:Nat.ble (nS.size+1) 1000=true:=by kernel_rfl
theorem Kp:nS.size<1073741824:=Nat.lt_of_lt_of_le (Nat.le_of_ble_eq_true Dr) (Nat.le_of_ble_eq_true rfl)
end Go.Abs

/-! RefLex2 -/

namespace Go.Abs
set_option maxRecDepth 8000
open Go.Proofs
def ai5:Int→aB→Int
 | n,[]=>n
 | n,c::r=>ai5 (n*10+((c.toNat:Int) - 48)) r
def ai6:bJ:=⟨0,[],0,0⟩
def arp (x:bJ ⊕ Int):bJ×Int:=
 match x with
 | .inl t=>(t,0)
 | .inr e=>(ai6,e)
end Go.Abs

/-! RefLex3 -/

namespace Go.Abs
set_option maxRecDepth 8000
open Go.Proofs
end Go.Abs

/-! Ref4 -/

namespace Go.Abs
set_option maxRecDepth 8000
open Go.Proofs
def arq (s:aB):aB:=s.take (min s.length 100100)
end Go.Abs

/-! Ref5 -/

namespace Go.Abs
set_option maxRecDepth 8000
open Go.Proofs
def Rd.apZ (n:Nat) (l:List aB) (fa:Int) (r:Rd):Option (List aB×Rd):=
 (r.take [44]).bind fun q=>if !q.1 then(q.2.want [59]).bind fun r=>some (l,r)else Rd.names n l fa q.2
def X2 (s:aB):Bool:=s == [105,102] || s == [119,104,105,108,101] || s == [98,114,101,97,107] || s == [99,111,110,116,105,110,117,101] || s == [114,101,116,117,114,110] || s == [103,111,116,111] || s == [114,101,97,100] || s == [112,114,105,110,116]
def Rd.SS (m:Nat) (r:Rd):Option (List Ar×Rd):=
 (r.want [40]).bind fun r=>(r.take [41]).bind fun q=>
  if q.1 then some ([],q.2)
  else if q.2.good then(Rd.vS m m [] q.2).bind fun x=>(x.2.want [41]).bind fun r=>some (x.1,r)
  else some ([],q.2)
end Go.Abs

/-! Ref6 -/

namespace Go.Abs
set_option maxRecDepth 8000
open Go.Proofs
def Rd.pz (m:Nat) (name:aB) (r:Rd):Option (Sm×Rd):=
 (r.isO [40]).bind fun b=>
  if b then(Rd.SS m r).bind fun q=>some (⟨0,4,[],[],name,la,false,q.1,[],[]⟩,q.2)
  else(r.want [61]).bind fun r=>(r.ahead [40]).bind fun b=>
   if b then(r.name true).bind fun y=>(Rd.SS m y.2).bind fun q=>some (⟨0,4,[],name,y.1,la,false,q.1,[],[]⟩,q.2)
   else(Rd.whole m r).bind fun y=>some (⟨0,1,[],name,[],y.1,false,[],[],[]⟩,y.2)
def art (p:Sm×Rd):Option (Sm×Rd):=(p.2.want [59]).bind fun r=>some (p.1,r)
end Go.Abs

/-! MirNum -/

namespace Go.Abs
def Pt {α:Type} (o:Option α) (Q:α→Prop):Prop:=∀ a,o=some a→Q a
structure ai7 (a b:Rd):Prop where
 l:b.l=a.l
 n:b.n=a.n
 g:b.good=true→a.good=true
def SmK (r0:Rd) (p:Sm×Rd):Prop:=ai7 r0 p.2∧p.1.a7 = []∧p.1.aW = []
structure Num (r:Rd) (k:Nat) (r':Rd):Prop where
 l:r'.l=r.l
 g:r'.good=true→r.good=true
 n:r'.good=true→k=r'.n
 le:r'.good=true→r.n≤200→r'.n≤200
end Go.Abs

/-! Ref7 -/

namespace Go.Abs
set_option maxRecDepth 8000
open Go.Proofs
def cN (r:Rd):D:=match r.good with | true=> .int .i64 r.n | false=> .junk
instance (r:Rd):Cell (cN r):=by
 unfold cN
 cases r.good
 ·exact inferInstanceAs (Cell .junk)
 ·exact inferInstanceAs (Cell (.int .i64 _))
def stD (g:Bool) (v:Sm):List D:=match g with | true=>bc v | false=> [.junk, .junk, .junk, .junk, .junk, .junk, .junk, .junk, .junk, .junk, .junk, .junk, .junk]
def TW (l:List bJ):Prop:=∀ t∈l,t.kind=4→X2 t.text=false
abbrev ap2 (m n:Nat):Prop:=∀ {k:Int} {z:D} [Cell z] {r r1:Rd} {p:(List Sm×List aB)×Rd},r.want [123] = some r1→Rd.rows m n k false r1=some p→TW r.l→(r1.good=true→z = .int .i64 r1.n)→(r1.good=true→r1.n≤200)→
 ∀ {s:St} {o:Nat},s.aw[o]? = some (tH z r)→
 aD Tryz.prog BO [.ptr o 0, .int .i64 k, .bool false] s (.tuple [.slice .shared 13 ((Sm.fM true r1.n p.1.1).1.map bc), .slice .shared 1 (p.1.2.map encStr)]) ⟨s.aw.set o (tH (cN p.2) p.2),s.aC⟩
abbrev ajm (m n:Nat):Prop:=∀ {nest:Int} {labels:List aB} {r:Rd} {p:Sm×Rd},Rd.stmt m n nest r=some p→r.good=true→TW r.l→r.n≤200→
 ∀ {s:St} {o:Nat},s.aw[o]? = some (tH (.int .i64 r.n) r)→
 aD Tryz.prog Dx [.ptr o 0, .slice .shared 1 (labels.map encStr), .int .i64 nest] s (.agg (stD p.2.good (Sm.num true r.n {p.1 with labels:=labels}).1)) ⟨s.aw.set o (tH (cN p.2) p.2),s.aC⟩
end Go.Abs

/-! Ref8 -/

namespace Go.Abs
set_option maxRecDepth 8000
open Go.Proofs
end Go.Abs

/-! Ref9 -/

namespace Go.Abs
set_option maxRecDepth 8000
open Go.Proofs
def Rd.aqF (m:Nat) (r:Rd):Option (Pc×Rd):=
 (r.name true).bind fun x=>(x.2.want [40]).bind fun r=>(r.take [41]).bind fun q=>
  if q.1 then(q.2.want [123]).bind fun r=>Rd.vT m x.1 [] r
  else if q.2.good then(Rd.params m [] q.2).bind fun y=>(y.2.want [41]).bind fun r=>(r.want [123]).bind fun r=>Rd.vT m x.1 y.1 r
  else Rd.vT m x.1 [] q.2
end Go.Abs

/-! Ref10 -/

namespace Go.Abs
set_option maxRecDepth 8000
open Go.Proofs
def Pc.gJ (n:Nat):List Pc→Nat
 | []=>n
 | f::l=>Pc.gJ (Sm.fM true n f.body).2 l
end Go.Abs

/-! Glue2 -/

namespace Go.Abs
def M0:Map:=⟨fun _ _=>none,fun _=>(0, .any),fun _=>none⟩
def Kept (w w':World):Prop:=w.keptBut w' (fun _=>False)∧∀ a:Addr,a.block<w.heap.size→w'.frozen? a=w.frozen? a
theorem Kept.frame {w w':World} (h:Kept w w') (may:MemPlace→Prop):w.keptBut w' may:=World.keptBut_mono (fun _ f=>f.elim) h.1
theorem Ext.X3 {M M':Map} {s':St} {w w':World} (e:Ext M S0 w M' s' w'):Kept w w':=by
 have hh : ∀ b,b<w.heap.size→w'.heap[b]? = w.heap[b]? :=fun b hb=>
  e.kept b hb (fun o ho=>by simp [S0]at ho) (fun t c z hl=>by obtain⟨n,hn⟩:=hl;simp [S0]at hn)
 refine⟨⟨e.os,e.output,fun i hi=> ?_⟩,fun a ha=> ?_⟩
 ·rw [hh i hi]
  exact(World.keptBut_refl w (fun _=>False)).2.2 i hi
 ·simp only [World.frozen?,hh _ ha]
theorem ai8 (G:Nat→Nat→Option Value) (w:World) (h : ∀ b o v,G b o=some v→w.cell? ⟨b,o,none⟩=some v∧v.oneCell'=true):Rel ⟨G,fun _=>(0, .any),fun _=>none⟩ S0 w:=
 ⟨h,fun o ds e=>by simp [S0]at e,fun o ho=>by simp [S0]at ho,fun o o' ho=>by simp [S0]at ho,fun t n e=>by simp [S0]at e,
  fun t b c z o hl=>by obtain⟨n,hn⟩:=hl;simp [S0]at hn,fun t t' b c z c' z' hl=>by obtain⟨n,hn⟩:=hl;simp [S0]at hn⟩
def Kq (w:World):Prop:=∀ g cs,U2 g=some cs→∃ T fr,w.heap[g]? = some (.cells cs T fr)
theorem aaR (G:Nat→Nat→Option Value) {w:World} (h:Kq w):Laid ⟨G,fun _=>(0, .any),fun _=>none⟩ S0 w:=
 fun g cs hg=>⟨h g cs hg,fun o ho=>by simp [S0]at ho,fun t c z hl=>by obtain⟨n,hn⟩:=hl;simp [S0]at hn⟩
theorem Nh {P:Program} {f:FuncId} {args:List D} {fJ:Array Value} {w:World} {G:Nat→Nat→Option Value} (h:dT P f args S0 fun d _=>d = .bool true)
 (hG : ∀ b o v,G b o=some v→w.cell? ⟨b,o,none⟩=some v∧v.oneCell'=true) (hl:fJ.size=args.length)
 (ha : ∀ (i:Nat) (d:D) (v:Value),args[i]? = some d→fJ[i]? = some v→RD ⟨G,fun _=>(0, .any),fun _=>none⟩ S0 d v) (kf:Kq w) :
 Calls P f fJ w fun e w'=>e = .returned (.bool true)∧Kept w w':=by
 refine(h _ w fJ (ai8 G w hG) (aaR G kf) hl ha).mono fun e w' hw=> ?_
 obtain⟨M',d,v,s',rfl,rfl,he,_,hv⟩:=hw
 rw [hv.lX]
 exact⟨rfl,he.X3⟩
section
variable {P:Program} {H:Type} {enc:TypeId×Value→H}
theorem F5 {f:Func} {s:ChangeSpec} {apart fresh handsOn again:Bool} {W W':World} {args:Array Value} {v:Value} {ds gs:List (DataW H)} {before pa pv:List MemPlace}
 (hW:DataW.Whole enc P f.params.toList s.vars apart W args.toList ds gs before)
 (X4 : ∀ (b:Nat) (sp:Nat→Bool) (hd:Bool),DataW.TrodAll enc P W' b sp hd f.resultTypes.toList (v.resultList f.resultTypes.size) (s.fn H (ds++gs)).results [])
 (DU : ∀ sp:Nat→Bool,(∀ p∈before,sp p.block=true)→DataW.TrodAll enc P W' 0 sp true f.params.toList args.toList (s.fn H (ds++gs)).args pa)
 (Bn : ∀ sp:Nat→Bool,(∀ p∈before,sp p.block=true)→DataW.TrodVars enc P W' sp s.vars (s.fn H (ds++gs)).vars pv)
 (rC:before=pa++pv) (hk:Kept W W')
 (CG : ∀ (j:Nat) (t:TypeId) (r:Value),f.resultTypes[j]? = some t→(v.resultList f.resultTypes.size)[j]? = some r→Value.okWide P W' .any 0 t r) :
 s.post enc P f apart fresh handsOn again W args v W':=by
 have hF : ∀ p∈before,p.block<W.heap.size:=fun p hp=>hW.lt p hp
 have hold : ∀ p∈before,(fun b=>decide (b<W.heap.size)) p.block=true:=fun p hp=>by simpa using hF p hp
 refine⟨ds,gs,before,[],pa,pv,hW,X4 _ _ _,DU _ hold,Bn _ hold,World.keptBut_mono (fun p hp=>⟨hp, ?_⟩) (hk.frame (· ∈before)),fun _=> ?_⟩
 ·rw [rC,List.mem_append]at hp
  exact Or.inr hp
 ·obtain⟨_,_,_,_,_,hz,hn⟩:=hW
  refine⟨CG,_,_,([]++pa)++pv,⟨[]++pa,pv,ChangeShapes.trodAll_append (DU _ (fun _ _=>rfl)) (X4 _ _ _),Bn _ (fun _ _=>rfl),rfl, ?_, ?_⟩, ?_⟩
  ·intro b off hp
   have mP:MemPlace.cell b off∈before:=by rw [rC];simpa using hp
   rw [hk.2 _ (hF _ mP)]
   exact hz b off mP
  ·intro ha
   have:=hn ha
   rw [rC]at this
   simpa using this
  ·intro p hp _
   rw [rC]
   simpa using hp
end
end Go.Abs

/-! LawAll -/

namespace Go.Abs
open Go.Proofs
def NW (t:bJ):Prop:=t.kind=4→X2 t.text=false
end Go.Abs

/-! Ck2 -/

namespace Go.Abs
set_option maxRecDepth 8000
open Go.Proofs
def Bo (p:Pg) (c o5:Int):Pg×Int×Int:=if c==0 then(if p.check.1==0 then(p,0,0)else(Au,p.check))else(Au,c,o5)
theorem UF {T:aB} {p:Pg} {c o5:Int} (h:Bk SQ T=some (p,c,o5)) (hm:c=0→p.may=true∧o5=0) (hp:p.size<100000) (hl:T.length<4611686018427387904) (s:St) :
 aD Tryz.prog sy [.str T] s (.tuple [.agg (cj (Bo p c o5).1), .agg (lH (Bo p c o5).2)]) s:=by
 refine aD.pure ?_ rfl (by simp [D.bH,D.ok,iX,lH]) s
 have h1:=fun s=>Uy h hl s
 have e0:cj Au = [.slice .shared 1 [], .slice .shared 5 []]:=rfl
 unfold S0
 unfold Bo
 have b0:(c != 0) = !(c==0):=rfl
 rcases Bool.eq_false_or_eq_true (c==0)with b1 | b1
 case inr=>
  simp only [b1,Bool.false_eq_true,if_false]
  rw [b1]at b0
  refine aD.go qb rfl fun B Q hB hQ=> ?_
  have⟨hF,hP,hY,hZ⟩:=bt
  repeat' (first
 | simp only [go_sem,hF,hP,hY,hZ,b1,b0,Bool.not_false,lH,e0]
 | (with_reducible refine CU (h1 _) ?_)
 | (with_reducible refine aH hQ ?_;simp only [az,aA,Option.some.injEq,exists_eq_left',go_sem,hF,hP,hY,hZ];repeat' (first | exact Ok.out | with_reducible refine aE ?_ ?_ | (simp;done))))
 have hc:c=0:=by simpa using b1
 subst hc
 obtain⟨Kr,hf⟩:=hm rfl
 subst hf
 have ho:p.jO:=⟨xZ Kr (by omega),by omega⟩
 have h2:=fun s=>Bm ho s
 have b3:(p.check.1 != 0) = !(p.check.1==0):=rfl
 simp only [b1,if_true]
 rcases Bool.eq_false_or_eq_true (p.check.1==0)with b2 | b2
 case inr=>
  simp only [b2,Bool.false_eq_true,if_false]
  rw [b2]at b3
  refine aD.go qb rfl fun B Q hB hQ=> ?_
  have⟨hF,hP,hY,hZ⟩:=bt
  repeat' (first
 | simp only [go_sem,hF,hP,hY,hZ,b1,b3,Bool.not_false,lH,e0]
 | (with_reducible refine CU (h1 _) ?_)
 | (with_reducible refine CU (h2 _) ?_)
 | (with_reducible refine aH hQ ?_;simp only [az,aA,Option.some.injEq,exists_eq_left',go_sem,hF,hP,hY,hZ];repeat' (first | exact Ok.out | with_reducible refine aE ?_ ?_ | (simp;done))))
 simp only [b2,if_true]
 rw [b2]at b3
 refine aD.go qb rfl fun B Q hB hQ=> ?_
 have⟨hF,hP,hY,hZ⟩:=bt
 repeat' (first
 | simp only [go_sem,hF,hP,hY,hZ,b1,b3,Bool.not_true,lH]
 | (with_reducible refine CU (h1 _) ?_)
 | (with_reducible refine CU (h2 _) ?_)
 | (with_reducible refine aH hQ ?_;simp only [az,aA,Option.some.injEq,exists_eq_left',go_sem,hF,hP,hY,hZ];repeat' (first | exact Ok.out | with_reducible refine aE ?_ ?_ | (simp;done))))
theorem ze:nS.check=(0,0):=by decide +kernel
theorem Ni:Pc.wx nS.procs=8:=by decide +kernel
theorem Nj:Au.check=(5,0):=by decide +kernel
theorem Nk (s:St):aD Tryz.prog o6 [] s (.bool true) s:=by
 refine aD.pure ?_ rfl rfl s
 have er:=Kp
 have KR:nS.size<100000:=by have:=Nat.le_of_ble_eq_true Dr;omega
 have Kr:nS.may=true:=by decide +kernel
 have ho:nS.jO:=⟨xZ Kr (by omega),by omega⟩
 have h1:=fun s=>UF F4 (fun _=>⟨Kr,rfl⟩) KR Ko s
 have e:Bo nS 0 0=(nS,0,0):=by unfold Bo;rw [ze];rfl
 rw [e]at h1
 have h2:=fun s=>Ng ho s
 rw [ze]at h2
 have h3:=fun s=>UC (p:=nS) (by omega) s
 rw [Ni]at h3
 have z0:((0:Int)==0)=true:=rfl
 have z8:(((8:Nat):Int)==8)=true:=rfl
 have z5:((5:Int)==5)=true:=rfl
 have h4':=fun s=>(Bm X1 s).Mn (d:= .agg [.slice .full 0 [], .slice .full 0 []]) (Wk.agg (.cons (Wk.nil _ _ _) (.cons (Wk.nil _ _ _) .nil)))
 simp only [Nj]at h4'
 unfold S0
 refine aD.go yC rfl fun B Q hB hQ=> ?_
 have⟨hF,hP,hY,hZ⟩:=bt
 repeat' (first
 | simp only [go_sem,hF,hP,hY,hZ,z0,z8,z5,lH]
 | (with_reducible refine CU (Qs _) ?_)
 | (with_reducible refine CU (X0 _) ?_)
 | (with_reducible refine CU (h1 _) ?_)
 | (with_reducible refine CU (h2 _) ?_)
 | (with_reducible refine CU (h3 _) ?_)
 | (with_reducible refine CU (h4' _) ?_)
 | (with_reducible refine aH hQ ?_;simp only [az,aA,Option.some.injEq,exists_eq_left',go_sem,hF,hP,hY,hZ];repeat' (first | exact Ok.out | with_reducible refine aE ?_ ?_ | (simp;done))))
end Go.Abs

/-! MayLaw -/

namespace Go.Abs
def TKs (l:List bJ):Prop:=∀ t∈l,(t.kind=1→isName t.text=true)∧(t.kind=2→0≤t.n)
def GK {α:Type} (r:Rd) (o:Option (α×Rd)) (Q:α→Prop):Prop:=∀ p,o=some p→p.2.l=r.l∧(p.2.good=true→r.good=true∧Q p.1)
def GKR (r:Rd) (o:Option Rd):Prop:=∀ p,o=some p→p.l=r.l∧(p.good=true→r.good=true)
end Go.Abs

/-! MayLaw2 -/

namespace Go.Abs
def SmL (s:Sm):Prop:=∀ L,df L=true→({s with labels:=L} : Sm).one=true
def aqG (s:aB):Bool:=s == [98,114,101,97,107] || s == [99,111,110,116,105,110,117,101] || s == [114,101,116,117,114,110] || s == [103,111,116,111] || s == [114,101,97,100] || s == [112,114,105,110,116]
mutual
def Sm.X5 (d:Int):Sm→Prop
 | ⟨id,kind,labels,name,proc,x,has,args,a7,aW⟩=>(⟨id,kind,labels,name,proc,x,has,args,a7,aW⟩:Sm).one=true∧d≤12∧Sm.Ks (d+1) a7∧Sm.Ks (d+1) aW
def Sm.Ks (d:Int):List Sm→Prop
 | []=>True
 | s::l=>s.X5 d∧Sm.Ks d l
end
def arv (d:Int) (s:Sm):Prop:=∀ L,df L=true→({s with labels:=L} : Sm).X5 d
structure Pc.X5 (f:Pc):Prop where
 name:isName f.name=true
 params:Pm.eB f.params=true∧f.params.length≤8
 vars:df f.vars=true∧(f.vars.length:Int)≤16
 fin:df f.fin=true
 body:Sm.Ks 1 f.body
end Go.Abs

/-! MayLaw3 -/

namespace Go.Abs
def Its (n:Nat) (MU:List It):Prop:=∀ (j:Nat) (it:It),MU[j]? = some it→it.s.id=((n+j+1:Nat):Int)∧it.deep≤12∧it.s.one=true
def Pc.tot:List Pc→Nat
 | []=>0
 | f::l=>Sm.dQ f.body+Pc.tot l
end Go.Abs

/-! Lx -/

namespace Go.Abs
def isR (c:UInt8):Bool:=(c.toNat:Int)==35
inductive Lx:Nat→aB→List bJ→Prop where
 | nil (pos:Nat):Lx pos [] []
 | blank (pos:Nat) (c:UInt8) (r:aB) (l:List bJ) (h:sM c=true) (k:Lx (pos+1) r l):Lx pos (c::r) l
 | rem (pos:Nat) (c:UInt8) (r:aB) (l:List bJ) (h:sM c=false) (h2:isR c=true) (k:Lx (pos+mV (c::r)) ((c::r).drop (mV (c::r))) l):Lx pos (c::r) l
 | tok (pos:Nat) (c:UInt8) (r:aB) (t:bJ) (l:List bJ) (h:sM c=false) (h2:isR c=false) (ht:Ca pos (c::r) = .inl t) (k:Lx (pos+t.text.length) ((c::r).drop t.text.length) l):Lx pos (c::r) (t::l)
def arw (n:Nat):bJ:=⟨0,[],0,(n:Nat)⟩
end Go.Abs

/-! Lx2 -/

namespace Go.Abs
def aaS (c:UInt8):Bool:= !(oi c) && !(mU c) && !(c==61) && !(c==38) && !(c==124)
def Stop:aB→Prop
 | []=>True
 | c::_=>aaS c=true
def aqH (t:bJ):Prop:=0<t.text.length∧∀ (p:Nat) (b:aB),Stop b→Ca p (t.text++b) = .inl {t with pos:=(p:Nat)}
end Go.Abs

/-! Sim -/

namespace Go.Abs
structure X6 (t t':bJ):Prop where
 k:t'.kind=t.kind
 x:t'.text=t.text
 n:t'.n=t.n
def Quiet (t:bJ):Prop:=t.kind=0∨t.kind=4∧t.text = [125]
def F7 (t:bJ):Prop:=t.kind=0∨t.kind=3∧t.text = [112,114,111,99]
structure Env (l l':List bJ) (N:Nat) (A:Prop):Prop where
 low : ∀ (i:Nat) (t:bJ),l[i]? = some t→(A∨i<N)→∃ t',l'[i]? = some t'∧X6 t t'
 at' : ¬ A→∃ t t',l[N]? = some t∧l'[N]? = some t'∧Quiet t∧F7 t'
section
variable {l l':List bJ} {N:Nat} {A:Prop}
structure Qt (l l':List bJ) (r r':Rd):Prop where
 el:r.l=l
 el':r'.l=l'
 ei:r'.i=r.i
 en:r'.n=r.n
 ec:r'.code=r.code
 ef:r.code=0∨(r.code=3∨r.code=4)∧∃ (j:Nat) (t t':bJ),l[j]? = some t∧l'[j]? = some t'∧r.o5=t.pos∧r'.o5=t'.pos
def X7 (N:Nat) (A:Prop) (r:Rd):Prop:=A∨r.good=true∧r.i≤N
def SR (l l':List bJ) (N:Nat) (A:Prop) (r r':Rd):Prop:=X7 N A r→Qt l l' r r'
def Sim {α:Type} (l l':List bJ) (N:Nat) (A:Prop) (r:Rd) (o o':Option (α×Rd)):Prop:=
 ∀ p,o=some p→r.i≤p.2.i∧(p.2.good=true→r.good=true)∧(X7 N A p.2→∃ q',o'=some (p.1,q')∧Qt l l' p.2 q')
def arx (l l':List bJ) (N:Nat) (A:Prop) (r:Rd) (o o':Option Rd):Prop:=
 ∀ p,o=some p→r.i≤p.i∧(p.good=true→r.good=true)∧(X7 N A p→∃ q',o'=some q'∧Qt l l' p q')
end
end Go.Abs

/-! Sim2 -/

namespace Go.Abs
section
variable {l l':List bJ} {N:Nat} {A:Prop}
def Next (N:Nat) (A:Prop) (r:Rd) (t t':bJ):Prop:=X6 t t'∨(¬ A∧r.i=N∧Quiet t∧F7 t')
structure ary (N:Nat) (A:Prop) (r r':Rd):Prop where
 g:r'.good=r.good
 i:r'.i=r.i
 n:r'.n=r.n
 pk : ∀ t,r.l5=some t→∃ t',r'.l5=some t'∧Next N A r t t'
 pk2 : ∀ t,r.l5=some t→t.kind=1→∀ u,BL r.l (r.i+1)=some u→∃ u',BL r'.l (r'.i+1)=some u'∧(X6 u u'∨Quiet u∧F7 u')
end
end Go.Abs

/-! Sim3 -/

namespace Go.Abs
section
variable {l l':List bJ} {N:Nat} {A:Prop}
end
end Go.Abs

/-! Sim4 -/

namespace Go.Abs
section
variable {l l':List bJ} {N:Nat} {A:Prop}
end
end Go.Abs

/-! MayLaw4 -/

namespace Go.Abs
def FOk (L:List bJ) (c o5:Int):Prop:=c=0∧o5=0∨(c=3∨c=4)∧∃ t∈L,t.pos=o5
end Go.Abs

/-! Full2 -/

namespace Go.Abs
set_option maxRecDepth 8000
open Go.Proofs
mutual
def Ex.nodes:Ex→Nat
 | ⟨_,_,_,kids⟩=>1+Ex.Nl kids
def Ex.Nl:List Ex→Nat
 | []=>0
 | x::l=>x.nodes+Ex.Nl l
end
mutual
def Kt:Ex→Int→Int
 | ⟨_,_,_,kids⟩,fa=>SU kids fa 1
def SU:List Ex→Int→Int→Int
 | [],_,n=>n
 | x::l,fa,n=>if n≤fa then SU l fa (n+Kt x (fa - n))else n
end
end Go.Abs

/-! Binds1 -/

namespace Go.Abs
set_option maxRecDepth 8000
open Go.Proofs
def Bp (n:Int):List D:= [.int .i64 n]
theorem aaT (n:Int):D.bH 0 0 (Bp n)=true:=rfl
theorem X8 (n m:Nat) (l:List Int):D.jf n m (l.map Bp)=l.map Bp:=lz aaT n m l
attribute [go_sem] Bp X8
def rZ (op:Int):aB:=
 if op=5 then [42]else if op=6 then [47]else if op=7 then [37]else if op=8 then [43]else if op=9 then [45]else if op=10 then [60]else if op=11 then [60,61]
 else if op=12 then [62]else if op=13 then [62,61]else if op=14 then [61,61]else if op=15 then [33,61]else if op=16 then [38,38]else [124,124]
def ga (op:Int):Int:=(WY (rZ op)).1
theorem aqI {op:Int} (h:(decide (5≤op) && decide (op≤17))=true):op=5∨op=6∨op=7∨op=8∨op=9∨op=10∨op=11∨op=12∨op=13∨op=14∨op=15∨op=16∨op=17:=by
 simp only [Bool.and_eq_true,decide_eq_true_eq]at h;omega
def Nn:Nat→List aB
 | 0=> []
 | n+1=>Nn n++ [[UInt8.ofNat (97+n)]]
end Go.Abs

/-! Full3 -/

namespace Go.Abs
set_option maxRecDepth 8000
open Go.Proofs
def Qu:Nat→Nat→aB
 | 0,_=> []
 | f+1,n=>if n<10 then [UInt8.ofNat (48+n)]else Qu f (n / 10)++ [UInt8.ofNat (48+n % 10)]
end Go.Abs

/-! Full4 -/

namespace Go.Abs
set_option maxRecDepth 8000
open Go.Proofs
inductive pH:Ex→Prop
 | num (n:Int) (h0:0≤n) (h1:n≤9223372036854775807):pH ⟨1,n,[],[]⟩
 | name (t:aB) (h:isName t=true):pH ⟨2,0,t,[]⟩
 | neg (y:Ex) (h:pH y):pH ⟨3,0,[],[y]⟩
 | no (y:Ex) (h:pH y):pH ⟨4,0,[],[y]⟩
 | two (op:Int) (a b:Ex) (ho:(decide (5≤op) && decide (op≤17))=true) (ha:pH a) (hb:pH b):pH ⟨op,0,[],[a,b]⟩
mutual
def Ea:Ex→aB
 | ⟨op,n,name,kids⟩=>aaU op n name kids
def aaU (op n:Int) (name:aB):List Ex→aB
 | []=>if op=2 then name else Qu 20 n.toNat
 | [a]=>if op=3 then [40,45]++Ea a++ [41]else [40,33]++Ea a++ [41]
 | a::b::_=> [40]++Ea a++rZ op++Ea b++ [41]
end
end Go.Abs

/-! Prim -/

namespace Go.Abs
open Go.Proofs
end Go.Abs

/-! Prim2 -/

namespace Go.Abs
open Go.Proofs Go.RowKit
def Eb (l:aB):List (List D):=l.map fun c=> [.int .u8 c.toNat]
end Go.Abs

/-! Pr1 -/

namespace Go.Abs
open Go.Proofs
mutual
def qY (least:Int):Ex→aB
 | ⟨op,n,name,kids⟩=>prK least op n name kids
def prK (least op n:Int) (name:aB):List Ex→aB
 | []=>if op=2 then name else Qu 20 n.toNat
 | [a]=>if op=3 then [45]++qY 7 a else [33]++qY 7 a
 | a::b::_=>if ga op<least then [40]++(qY (ga op) a++ [32]++rZ op++ [32]++qY (ga op+1) b)++ [41]else qY (ga op) a++ [32]++rZ op++ [32]++qY (ga op+1) b
end
def prT (op:Int) (a b:Ex):aB:=qY (ga op) a++ [32]++rZ op++ [32]++qY (ga op+1) b
def ap5 (x:Ex):aB:=if x.may then qY 0 x else []
end Go.Abs

/-! Binds2 -/

namespace Go.Abs
open Go.Proofs
def ai9 (names:List aB) (ops:List Int):Nat→aB
 | 0=> []
 | i+1=>ai9 names ops i++(if i=0 then []else rZ (ops.getD (i - 1) 0))++names.getD i []
structure aqJ (names:List aB) (ops:List Int):Prop where
 len:names.length=ops.length+1
 fa:ops.length≤20
 short : ∀ x∈names,x.length≤1
 op : ∀ o∈ops,(decide (5≤o) && decide (o≤17))=true
def aaV (i:Nat) (op:Int) (al:Nat×Int):Nat×Int:=if ga op≤al.2 then(i,ga op)else al
def HK:List Int→Nat→Nat×Int→Nat×Int
 | [],_,al=>al
 | op::r,i,al=>HK r (i+1) (aaV i op al)
def No:Nat→List aB→List Int→Ex
 | 0,_,_=>la
 | n+1,names,ops=>if ops.length=0 then jd (names.getD 0 [])else
  qA (ops.getD (HK ops 0 (0,9)).1 0) (No n (names.take ((HK ops 0 (0,9)).1+1)) (ops.take (HK ops 0 (0,9)).1)) (No n (names.drop ((HK ops 0 (0,9)).1+1)) (ops.drop ((HK ops 0 (0,9)).1+1)))
end Go.Abs

/-! BindsL -/

namespace Go.Abs
inductive sV:Ex→List (Int×aB)→Ex→Prop
 | nil (x:Ex):sV x [] x
 | cut (x:Ex) (p1:List (Int×aB)) (op:Int) (y:aB) (p2:List (Int×aB)) (t1 t2:Ex) (h1:sV x p1 t1) (h2:sV (jd y) p2 t2) (l1 : ∀ q∈p1,ga op≤ga q.1) (l2 : ∀ q∈p2,ga op<ga q.1) :
  sV x (p1++(op,y)::p2) (qA op t1 t2)
def Bq:List (Int×aB)→List bJ→Prop
 | [],l=>∃ t r,l=t::r∧t.kind=0
 | (op,y)::p,l=>∃ s u r,l=s::u::r∧s.kind=4∧s.text=rZ op∧(decide (5≤op) && decide (op≤17))=true∧u.kind=1∧u.text=y∧Bq p r
def ap6 (n:Nat):Prop:=∀ (least:Int) (r:Rd) (t0:bJ) (p:List (Int×aB)) (l:List bJ) (x:Ex×Rd),r.l.drop r.i=t0::l→t0.kind=1→Bq p l→r.code=0→1≤least→Rd.two n least r=some x→
 ∃ p1 p2,p=p1++p2∧sV (jd t0.text) p1 x.1∧(∀ q∈p1,least≤ga q.1)∧(∀ q p',p2=q::p'→ga q.1<least)∧x.2 = {r with i:=r.i+1+2*p1.length}∧Bq p2 (l.drop (2*p1.length))
def ajn (n:Nat):Prop:=∀ (least:Int) (x0:Ex) (A:List (Int×aB)) (x:Ex) (r:Rd) (p:List (Int×aB)) (l:List bJ) (z:Ex×Rd),r.l.drop r.i=l→Bq p l→r.code=0→1≤least→sV x0 A x→
 (∀ q p',p=q::p'→∀ a∈A,ga q.1≤ga a.1)→Rd.xG n least x r=some z→
 ∃ p1 p2,p=p1++p2∧sV x0 (A++p1) z.1∧(∀ q∈p1,least≤ga q.1)∧(∀ q p',p2=q::p'→ga q.1<least)∧z.2 = {r with i:=r.i+2*p1.length}∧Bq p2 (l.drop (2*p1.length))
end Go.Abs

/-! BindsL2 -/

namespace Go.Abs
def AtB (d:List Int) (al:Nat×Int):Prop:=(d = []∧al.2=9)∨∃ o1 op o2,d=o1++op::o2∧o1.length=al.1∧ga op=al.2∧(∀ o∈o1,ga op≤ga o)∧∀ o∈o2,ga op<ga o
def aaW:List aB→List Int→aB
 | x::xs,op::ops=>rZ op++(x++aaW xs ops)
 | _,_=> []
def aja:aB→Prop
 | []=>True
 | c::_=>oi c=false∧mU c=false
end Go.Abs

/-! Full5 -/

namespace Go.Abs
def sa (t:bJ) (k:Int) (s:aB) (n:Int):Prop:=t.kind=k∧t.text=s∧t.n=n
inductive sb:Ex→List bJ→List bJ→Prop
 | num (n:Int) (t:bJ) (l:List bJ) (h:t.kind=2) (h2:t.n=n):sb ⟨1,n,[],[]⟩ (t::l) l
 | name (s:aB) (t:bJ) (l:List bJ) (h:t.kind=1) (h2:t.text=s):sb ⟨2,0,s,[]⟩ (t::l) l
 | neg (y:Ex) (p m q:bJ) (l r:List bJ) (hp:sa p 4 [40] 0) (hm:sa m 4 [45] 0) (hy:sb y l (q::r)) (hq:sa q 4 [41] 0):sb ⟨3,0,[],[y]⟩ (p::m::l) r
 | no (y:Ex) (p m q:bJ) (l r:List bJ) (hp:sa p 4 [40] 0) (hm:sa m 4 [33] 0) (hy:sb y l (q::r)) (hq:sa q 4 [41] 0):sb ⟨4,0,[],[y]⟩ (p::m::l) r
 | two (op:Int) (a b:Ex) (p o q:bJ) (l m r:List bJ) (ho:(decide (5≤op) && decide (op≤17))=true) (hp:sa p 4 [40] 0) (ha:sb a l (o::m)) (hs:sa o 4 (rZ op) 0) (hb:sb b m (q::r)) (hq:sa q 4 [41] 0) :
  sb ⟨op,0,[],[a,b]⟩ (p::l) r
end Go.Abs

/-! Full6 -/

namespace Go.Abs
end Go.Abs

/-! Full7 -/

namespace Go.Abs
def Okd:aB→Prop
 | []=>False
 | d::_=>d≠61∧d≠38∧d≠124
end Go.Abs

/-! Pe1 -/

namespace Go.Abs
def Rd.mv (r:Rd) (k:Nat):Rd:= {r with i:=r.i+k}
structure At (r:Rd) (l:List bJ):Prop where
 d:r.l.drop r.i=l
 c:r.code=0
 s:r.l.length<1000000000
def Kd (t:bJ):Prop:=0≤t.kind∧t.kind≤4
def Halt (c:Int) (m:List bJ):Prop:=∃ t m',m=t::m'∧Kd t∧((lZ t).1=0∨(lZ t).2≤c)
def aqK (x:Ex) (l:List bJ):Prop:=∀ (r:Rd) (lr:List bJ) (n:Nat),At r (l++lr)→3*l.length≤n+1→Rd.one n r=some (x,r.mv l.length)
def aqL (c:Int) (x:Ex) (l:List bJ):Prop:=∀ (r:Rd) (lr:List bJ) (n:Nat) (k:Int),At r (l++lr)→Halt c lr→k≤c→3*l.length≤n→∃ n',n≤n'+3*l.length∧Rd.two n k r=Rd.xG n' k x (r.mv l.length)
end Go.Abs

/-! Pe2 -/

namespace Go.Abs
def zf (least:Int):Ex→Nat
 | ⟨op,_,_,kids⟩=>match kids with
  | []=>1
  | [a]=>1+zf 7 a
  | a::b::_=>zf (ga op) a+1+zf (ga op+1) b+(if ga op<least then 2 else 0)
def LxS (s:aB) (pos:Nat) (l:List bJ):Prop:=∀ r lr,aja r→Lx (pos+s.length) r lr→Lx pos (s++r) (l++lr)
def X9 (l:List bJ):Prop:=(∃ t l',l=t::l'∧(t.kind=2∨(t.kind=4∧(t.text = [40]∨t.text = [45]∨t.text = [33]))))∨(∃ t,l = [t]∧t.kind=1)∨∃ t u l',l=t::u::l'∧t.kind=1∧(decide (5≤(lZ u).1) && decide ((lZ u).1≤17))=true
def Ends (m:List bJ):Prop:=∃ t m',m=t::m'∧Kd t∧(lZ t).1=0
def UG (x:Ex) (l:List bJ):Prop:=∀ (r:Rd) (lr:List bJ) (n:Nat),At r (l++lr)→Ends lr→3*l.length<n→Rd.whole n r=some (x,r.mv l.length)
end Go.Abs

/-! Bld -/

namespace Go.Abs
open Go.Proofs
theorem aaY (n m:Nat) (l:aB):D.iE n m (Eb l)=true:=by
 simp [Eb,Ak,xv,D.ok]
theorem aaZ (n m:Nat) (l:aB):D.jf n m (Eb l)=Eb l:=As n m _ (aaY 0 0 l)
attribute [go_sem] aaZ
def qB (n:Nat) (m:aB):aB:=List.replicate n 32++m++ [10]
end Go.Abs

/-! Pr2 -/

namespace Go.Abs
open Go.Proofs
def ya:List aB→aB
 | []=> []
 | s::l=>s++ [58,32]++ya l
def ajb (a:Ar):aB:=if a.ref then [114,101,102,32]++a.name else qY 0 a.x
def aa0 (name proc:aB) (args:List Ar):aB:=(if name = []then []else name++ [32,61,32])++(proc++ [40]++Lib.join (args.map ajb) [44,32]++ [41])
def Np (kind:Int) (name proc:aB) (x:Ex) (has:Bool) (args:List Ar):aB:=
 if kind=1 then name++ [32,61,32]++qY 0 x else if kind=2 then [114,101,97,100,32]++name else if kind=3 then [112,114,105,110,116,32]++qY 0 x else if kind=7 then [98,114,101,97,107]else if kind=8 then [99,111,110,116,105,110,117,101]
 else if kind=10 then [103,111,116,111,32]++name else if kind=9 then(if has then [114,101,116,117,114,110,32]++qY 0 x else [114,101,116,117,114,110])else aa0 name proc args
structure Sm.PrO (s:Sm):Prop where
 x:s.sO=true→pH s.x
 Sq : ∀ t∈s.labels,t.length≤8
 name:s.name.length≤8
 proc:s.proc.length≤8
 args : ∀ a∈s.args,a.name.length≤8∧(a.ref=false→pH a.x)
 kind:1≤s.kind∧s.kind≤10
 aW:s.kind=6→s.aW = []
end Go.Abs

/-! Pr3 -/

namespace Go.Abs
open Go.Proofs
mutual
def ajc (bZ:Nat):Sm→aB
 | ⟨id,kind,labels,name,proc,x,has,args,a7,aW⟩=>
  if kind=6 then qB bZ (ya labels++ [119,104,105,108,101,32,40]++qY 0 x++ [41,32,123])++wy (bZ+1) a7++qB bZ [125]
  else if kind=5 then qB bZ (ya labels++ [105,102,32,40]++qY 0 x++ [41,32,123])++wy (bZ+1) a7++(if aW.length=0 then []else qB bZ [125,32,101,108,115,101,32,123]++wy (bZ+1) aW)++qB bZ [125]
  else qB bZ (ya labels++Np kind name proc x has args++ [59])
def wy (bZ:Nat):List Sm→aB
 | []=> []
 | s::l=>ajc bZ s++wy bZ l
end
mutual
def Sm.PrR (bZ:Nat):Sm→Prop
 | ⟨id,kind,labels,name,proc,x,has,args,a7,aW⟩=>Sm.PrO ⟨id,kind,labels,name,proc,x,has,args,a7,aW⟩∧bZ≤12∧Sm.Ku (bZ+1) a7∧Sm.Ku (bZ+1) aW
def Sm.Ku (bZ:Nat):List Sm→Prop
 | []=>True
 | s::l=>s.PrR bZ∧Sm.Ku bZ l
end
def ko (l:aB):Nat:=l.length
end Go.Abs

/-! Own -/

namespace Go.Abs
end Go.Abs

/-! Pr4 -/

namespace Go.Abs
open Go.Proofs
def Ya (a:Pm):aB:=(if a.ref then [114,101,102,32]else [])++a.name
def aa1 (f:Pc):aB:=
 qB 0 ([112,114,111,99,32]++f.name++ [40]++Lib.join (f.params.map Ya) [44,32]++ [41,32,123])++(if f.vars.length=0 then []else qB 1 ([118,97,114,32]++Lib.join f.vars [44,32]++ [59]))++wy 1 f.body++qB 0 (ya f.fin++ [125])
def Nq:List Pc→aB
 | []=> []
 | f::l=>aa1 f++Nq l
def Yb (l:List aB):aB:=if l.length=0 then []else qB 0 ([103,108,111,98,97,108,32]++Lib.join l [44,32]++ [59])
def aqM (p:Pg):aB:=Yb p.globals++Nq p.procs
structure Pc.PrP (f:Pc):Prop where
 name:f.name.length≤8
 params : ∀ a∈f.params,a.name.length≤8
 vars : ∀ t∈f.vars,t.length≤8
 fin : ∀ t∈f.fin,t.length≤8
 body:Sm.Ku 1 f.body
structure Pg.PrG (p:Pg):Prop where
 globals : ∀ t∈p.globals,t.length≤8
 procs : ∀ f∈p.procs,f.PrP
end Go.Abs

/-! Ps1 -/

namespace Go.Abs
def LxF (s:aB) (pos:Nat) (l:List bJ):Prop:=∀ r lr,Lx (pos+s.length) r lr→Lx pos (s++r) (l++lr)
def tSg (c:UInt8) (pos:Nat):bJ:=⟨4,[c],0,(pos:Nat)⟩
def tNm (t:aB) (pos:Nat):bJ:=⟨1,t,0,(pos:Nat)⟩
def tWd (t:aB) (pos:Nat):bJ:=⟨3,t,0,(pos:Nat)⟩
inductive Kv {α:Type} (G:α→List bJ→Prop):List α→List bJ→Prop
 | one (x:α) (l:List bJ) (h:G x l):Kv G [x] l
 | cons (x:α) (l:List bJ) (c:bJ) (hc:c.kind=4∧c.text = [44]) (xs:List α) (m:List bJ) (h:G x l) (k:Kv G xs m):Kv G (x::xs) (l++c::m)
end Go.Abs

/-! Ps2 -/

namespace Go.Abs
def SV (t:aB) (l:List bJ):Prop:=∃ k:bJ,l = [k]∧k.kind=1∧k.text=t
def aqa (a:Pm) (l:List bJ):Prop:=if a.ref then ∃ w k:bJ,l = [w,k]∧w.kind=3∧w.text = [114,101,102]∧k.kind=1∧k.text=a.name else SV a.name l
def arz (a:Ar) (l:List bJ):Prop:=if a.ref then ∃ w k:bJ,l = [w,k]∧w.kind=3∧w.text = [114,101,102]∧k.kind=1∧k.text=a.name else UG a.x l∧X9 l∧l.length=zf 0 a.x
def arZ (a:Ar):Ar:=if a.ref then⟨true,a.name,la⟩else⟨false,[],a.x⟩
inductive Kw:List aB→List bJ→Prop
 | nil:Kw [] []
 | cons (t c:bJ) (ls:List aB) (m:List bJ) (ht:t.kind=1) (hc:c.kind=4) (QJ:c.text = [58]) (h:Kw ls m):Kw (t.text::ls) (t::c::m)
def aqN (l:List bJ):Prop:=∃ t l',l=t::l'∧Kd t∧(t.kind≠1∨∃ u m,l'=u::m∧(u.kind≠4∨u.text≠ [58]))
end Go.Abs

/-! PrMay -/

namespace Go.Abs
end Go.Abs

/-! Pr5 -/

namespace Go.Abs
set_option maxRecDepth 8000
open Go.Proofs
def aqO (x:Ex):Int:=if kK x.op<2 then 7 else ga x.op
def aa2 (sep:aB):Nat→List aB→aB
 | _,[]=> []
 | k,a::l=>(if k=0 then []else sep)++(a++aa2 sep (k+1) l)
end Go.Abs

/-! Pr6 -/

namespace Go.Abs
set_option maxRecDepth 8000
open Go.Proofs
def aa3 (s:Sm):aB:=if s.kind=6 then [119,104,105,108,101,32,40]++qY 0 s.x++ [41,32,123]else if s.kind=5 then [105,102,32,40]++qY 0 s.x++ [41,32,123]else Np s.kind s.name s.proc s.x s.has s.args++ [59]
end Go.Abs

/-! Pr7 -/

namespace Go.Abs
set_option maxRecDepth 8000
open Go.Proofs
end Go.Abs

/-! Ps3 -/

namespace Go.Abs
mutual
def Sm.z:Sm→Sm
 | ⟨_,kind,labels,name,proc,x,has,args,a7,aW⟩=>⟨0,kind,labels,name,proc,x,has,args,Sm.zs a7,Sm.zs aW⟩
def Sm.zs:List Sm→List Sm
 | []=> []
 | s::l=>s.z::Sm.zs l
end
structure arA (s:Sm):Prop where
 Sq:df s.labels=true
 x:s.sO=true→s.x.may=true
 x0:s.sO=false→s.x=la
 has:s.has=true→s.kind=9
 nm:s.hasName=true→isName s.name=true
 nm0:s.hasName=false→s.name = []∨(s.nz=true∧isName s.name=true)
 proc:s.nz=true→isName s.proc=true
 call:s.nz=false→s.proc = []∧s.args = []
 args:Ar.eB s.args=true
 a7:s.a7 = []∨s.kind=5∨s.kind=6
 aW:s.aW = []∨s.kind=5
 kind:1≤s.kind∧s.kind≤10
def aqP (bZ:Nat) (s:Sm):aB:=aa3 s++([10]++(if s.kind=5∨s.kind=6 then
 wy (bZ+1) s.a7++((if s.kind=5∧s.aW.length≠0 then List.replicate bZ 32++ [125,32,101,108,115,101,32,123,10]++wy (bZ+1) s.aW else [])++(List.replicate bZ 32++ [125,10]))else []))
def Yc (w:aB) (l:List bJ):Prop:=∃ t l',l=t::l'∧Kd t∧((t.kind≠3∧t.kind≠4)∨t.text≠w)
abbrev Yd (l:List bJ):Prop:=Yc [101,108,115,101] l
def aqb (nest:Int) (n0 n1:Nat) (s:Sm) (l:List bJ):Prop:=∀ (r:Rd) (lr:List bJ) (m n:Nat),At r (l++lr)→Yd lr→r.n=n0→3*l.length<m→l.length≤n→
 Rd.stmt m n nest r=some ({s.z with labels:= []},{r.mv l.length with n:=n1})
end Go.Abs

/-! Ps4 -/

namespace Go.Abs
def argN (a:Ar):Nat:=if a.ref then 2 else zf 0 a.x
def Kx {α:Type} (f:α→Nat):List α→Nat
 | []=>0
 | [a]=>f a
 | a::b::l=>f a+1+Kx f (b::l)
def Ye (kind:Int) (name:aB) (x:Ex) (has:Bool) (args:List Ar):Nat:=
 if kind=1 then zf 0 x+3 else if kind=2 then 3 else if kind=3 then zf 0 x+2 else if kind=7 then 2 else if kind=8 then 2 else if kind=10 then 3
 else if kind=9 then(if has then zf 0 x+2 else 2)else(if name = []then 0 else 2)+Kx argN args+4
def aqQ (l:List bJ):Prop:=(∃ t u l',l=t::u::l'∧t.kind=1∧(u.kind≠4∨u.text≠ [58]))∨(∃ t l',l=t::l'∧t.kind=3∧t.text≠ [125]∧t.text≠ [101,108,115,101]∧t.text≠ [118,97,114])
end Go.Abs

/-! Ps5 -/

namespace Go.Abs
mutual
def aa4:Sm→Nat
 | ⟨_,kind,_,name,_,x,has,args,a7,aW⟩=>if kind=6 then zf 0 x+5+Br a7 else if kind=5 then zf 0 x+5+Br a7+(if aW.length=0 then 0 else Br aW+3)else Ye kind name x has args
def Br:List Sm→Nat
 | []=>0
 | s::l=>2*s.labels.length+aa4 s+Br l
end
def aqc (nest:Int) (n0 n1:Nat) (l:List Sm) (L:List bJ):Prop:=∀ (fin:List aB) (F:List bJ) (q:bJ) (body:Bool) (r:Rd) (lr:List bJ) (m n:Nat) (out:List Sm),Kw fin F→q.kind=4→q.text = [125]→(body=true∨fin = [])→
 At r (L++(F++q::lr))→r.n=n0→3*(L.length+F.length+1)<m→L.length+F.length+1≤n→out.length+l.length≤1000000→fin.length≤1000000→
 Rd.rM m n nest body out r=some ((out++Sm.zs l,fin),{r.mv (L.length+F.length+1)with n:=n1})
def aqd (L:List bJ):Prop:=∀ w,(w = [101,108,115,101]∨w = [118,97,114])→∀ lr,Yc w lr→Yc w (L++lr)
end Go.Abs

/-! Pr8 -/

namespace Go.Abs
set_option maxRecDepth 8000
open Go.Proofs
end Go.Abs

/-! Ps6 -/

namespace Go.Abs
def ajd (a:Pm):Nat:=if a.ref then 2 else 1
def aqe (w:aB) (l:List aB) (T:List bJ):Prop:=(l = []∧T = [])∨∃ (t q:bJ) (m:List bJ),T=t::(m++ [q])∧t.kind=3∧t.text=w∧Kv SV l m∧q.kind=4∧q.text = [59]
def Nr (l:List aB):Nat:=if l.length=0 then 0 else Kx (fun _=>1) l+2
def aqf (n0 n1:Nat) (f:Pc) (l:List bJ):Prop:=∀ (r:Rd) (lr:List bJ) (m:Nat),At r (l++lr)→r.n=n0→3*l.length+10<m→Rd.proc m r=some (⟨f.name,f.params,f.vars,Sm.zs f.body,f.fin⟩,{r.mv l.length with n:=n1})
def aa5 (f:Pc):Nat:=6+Kx ajd f.params+Nr f.vars+Br f.body+2*f.fin.length
end Go.Abs

/-! Ps7 -/

namespace Go.Abs
def Pc.z (f:Pc):Pc:=⟨f.name,f.params,f.vars,Sm.zs f.body,f.fin⟩
def Pg.z (p:Pg):Pg:=⟨p.globals,p.procs.map Pc.z⟩
def ajo (n0:Nat) (l:List Pc) (L:List bJ):Prop:=∀ (r:Rd) (e:bJ) (m n:Nat) (out:List Pc),At r (L++ [e])→e.kind=0→r.n=n0→out.length+l.length≤16→3*L.length+10<m→l.length<n→
 ∃ n1,Rd.procs m n out r=some (out++l.map Pc.z,{r.mv L.length with n:=n1})
def Ns:List Pc→Nat
 | []=>0
 | f::l=>aa5 f+Ns l
def Pg.aC (p:Pg):Nat:=Nr p.globals+Ns p.procs
end Go.Abs

/-! Swap2 -/

namespace Go.Abs
end Go.Abs

/-! Swap1 -/

namespace Go.Abs
set_option maxRecDepth 8000
open Go.Proofs
end Go.Abs

/-! Swap3 -/

namespace Go.Abs
set_option maxRecDepth 8000
open Go.Proofs
abbrev aqg (a b:aB) (N:Nat):Prop:=∀ l:List Sm,Sm.aY l<N→∀ s:St,aD Tryz.prog zz [.slice .shared 13 (l.map bc), .str a, .str b] s (.slice .shared 13 ((Sm.tZ a b l).map bc)) s
end Go.Abs

/-! BeqEq -/

namespace Go.Abs
end Go.Abs

/-! LawPr7 -/

namespace Go.Abs
set_option maxRecDepth 8000
open Go.Proofs
end Go.Abs

/-! PLen -/

namespace Go.Abs
end Go.Abs

/-! Some -/

namespace Go.Abs
open Go.Proofs
def prB:Pc:=⟨[112],[⟨[120],false⟩,⟨[121],true⟩],[],[
 ⟨5,1,[],[121],[],qA 8 (jd [121]) (jd [120]),false,[],[],[]⟩,
 ⟨6,5,[],[],[],qA 12 (jd [121]) (ud 9),false,[],[⟨7,10,[],[101],[],la,false,[],[],[]⟩],[]⟩,
 ⟨8,9,[],[],[],jd [121],true,[],[],[]⟩],[[101]]⟩
def stB:Sm:=⟨6,5,[],[],[],qA 12 (jd [121]) (ud 9),false,[],[⟨7,10,[],[101],[],la,false,[],[],[]⟩],[]⟩
end Go.Abs

/-! Toks -/

namespace Go.Abs
set_option maxRecDepth 8000
open Go.Proofs
def HL:List Ar→Int
 | []=>0
 | a::l=>3+4*Kt a.x 2000+HL l
def SW (s:Sm):Int:=8+2*(s.labels.length:Int)+4*Kt s.x 2000+HL s.args
def F8:List It→Int
 | []=>0
 | i::l=>SW i.s+F8 l
def SX:List Pm→Int
 | []=>0
 | a::l=>(if a.ref then 1 else 0)+SX l
def aa6 (f:Pc):Int:=6+2*(f.params.length:Int)+2*(f.fin.length:Int)+SX f.params - (if f.params.length=0 then 0 else 1)+(if f.vars.length=0 then 0 else 1+2*(f.vars.length:Int))+F8 f.flat
def Nt:List Pc→Int
 | []=>0
 | f::l=>aa6 f+Nt l
def arB (p:Pg):Int:=(if p.globals.length=0 then 0 else 1+2*(p.globals.length:Int))+Nt p.procs
end Go.Abs

/-! Toks2 -/

namespace Go.Abs
mutual
def aje:Sm→Int
 | ⟨id,kind,labels,name,proc,x,has,args,a7,aW⟩=>SW ⟨id,kind,labels,name,proc,x,has,args,a7,aW⟩+F9 a7+F9 aW
def F9:List Sm→Int
 | []=>0
 | s::l=>aje s+F9 l
end
end Go.Abs

/-! LawTurn -/

namespace Go.Abs
open Go.Proofs
end Go.Abs

/-! LawCk1 -/

namespace Go.Abs
set_option maxRecDepth 8000
open Go.Proofs
theorem Cn (p:Pg) (s:St):aD Tryz.prog qQ [.agg (cj p)] s (.bool true) s:=by
 refine aD.pure ?_ (by simp [D.bH,D.ok,iX]) rfl s
 have h1:=fun s=>Nk s
 have h2:=fun s=>XV p s
 unfold S0
 rcases Bool.eq_false_or_eq_true (decide (p.yy≤20000))with hw | hw
 case inr=>
  simp only [hw]at h2
  refine aD.go gn rfl fun B Q hB hQ=> ?_
  have⟨hF,hP,hY,hZ⟩:=bt
  repeat' (first
 | simp only [go_sem,hF,hP,hY,hZ]
 | (with_reducible refine CU (h1 _) ?_)
 | (with_reducible refine CU (h2 _) ?_)
 | (with_reducible refine aH hQ ?_;simp only [az,aA,Option.some.injEq,exists_eq_left',go_sem,hF,hP,hY,hZ];repeat' (first | exact Ok.out | with_reducible refine aE ?_ ?_ | (simp;done))))
 simp only [hw]at h2
 obtain⟨er,SY⟩:=Km (of_decide_eq_true hw)
 have ho:p.jO:=⟨SY,by omega⟩
 have h3:=fun s=>Bm ho s
 have h5:=fun s=>Ng ho s
 have h6:=fun s=>Ft SY s
 rw [yr]at h6
 have h7:=fun s=>qh ho s
 have h8:=fun s=>zL ho s
 have h9:=fun s=>FP ho s
 have h10:=fun s=>Dn ho s
 have e1 : ∀ x:Int,(x==x)=true:=fun x=>by simp
 have e3 : ∀ b:Bool,(b==b)=true:=fun b=>by cases b <;> rfl
 obtain⟨R,hR⟩ : ∃ R,p.check=R:=⟨_,rfl⟩
 rw [hR]at h3 h5
 unfold Pg.check at hR
 have n1:(p.scope.1 != 0) = !(p.scope.1==0):=rfl
 have n2:(p.arity.1 != 0) = !(p.arity.1==0):=rfl
 have n3:(p.jump.1 != 0) = !(p.jump.1==0):=rfl
 rcases Bool.eq_false_or_eq_true p.may with b0 | b0
 case inr=>
  have e:((1:Int)==0)=false:=rfl
  have e':((1:Int)==1)=true:=rfl
  have e0:((0:Int)==0)=true:=rfl
  rw [F3 b0]at hR
  simp only [e,Bool.false_eq_true,if_false]at hR
  subst hR
  refine aD.go gn rfl fun B Q hB hQ=> ?_
  have⟨hF,hP,hY,hZ⟩:=bt
  repeat' (first
 | simp only [go_sem,hF,hP,hY,hZ,b0,e,e',e0,e3,Bool.not_false]
 | (with_reducible refine CU (h1 _) ?_)
 | (with_reducible refine CU (h2 _) ?_)
 | (with_reducible refine CU (h3 _) ?_)
 | (with_reducible refine CU (h5 _) ?_)
 | (with_reducible refine CU (h6 _) ?_)
 | (with_reducible refine aH hQ ?_;simp only [az,aA,Option.some.injEq,exists_eq_left',go_sem,hF,hP,hY,hZ];repeat' (first | exact Ok.out | with_reducible refine aE ?_ ?_ | (simp;done))))
 rcases Bool.eq_false_or_eq_true (p.scope.1==0)with b1 | b1
 case inr=>
  simp only [b1,Bool.false_eq_true,if_false]at hR
  rw [b1]at n1
  subst hR
  refine aD.go gn rfl fun B Q hB hQ=> ?_
  have⟨hF,hP,hY,hZ⟩:=bt
  repeat' (first
 | simp only [go_sem,hF,hP,hY,hZ,b0,n1,e1,e3,Bool.not_true,Bool.not_false]
 | (with_reducible refine CU (h1 _) ?_)
 | (with_reducible refine CU (h2 _) ?_)
 | (with_reducible refine CU (h3 _) ?_)
 | (with_reducible refine CU (h5 _) ?_)
 | (with_reducible refine CU (h6 _) ?_)
 | (with_reducible refine CU (h7 _) ?_)
 | (with_reducible refine aH hQ ?_;simp only [az,aA,Option.some.injEq,exists_eq_left',go_sem,hF,hP,hY,hZ];repeat' (first | exact Ok.out | with_reducible refine aE ?_ ?_ | (simp;done))))
 simp only [b1,if_true]at hR
 rw [b1]at n1
 rcases Bool.eq_false_or_eq_true (p.arity.1==0)with b2 | b2
 case inr=>
  simp only [b2,Bool.false_eq_true,if_false]at hR
  rw [b2]at n2
  subst hR
  refine aD.go gn rfl fun B Q hB hQ=> ?_
  have⟨hF,hP,hY,hZ⟩:=bt
  repeat' (first
 | simp only [go_sem,hF,hP,hY,hZ,b0,n1,n2,e1,e3,Bool.not_true,Bool.not_false]
 | (with_reducible refine CU (h1 _) ?_)
 | (with_reducible refine CU (h2 _) ?_)
 | (with_reducible refine CU (h3 _) ?_)
 | (with_reducible refine CU (h5 _) ?_)
 | (with_reducible refine CU (h6 _) ?_)
 | (with_reducible refine CU (h7 _) ?_)
 | (with_reducible refine CU (h8 _) ?_)
 | (with_reducible refine aH hQ ?_;simp only [az,aA,Option.some.injEq,exists_eq_left',go_sem,hF,hP,hY,hZ];repeat' (first | exact Ok.out | with_reducible refine aE ?_ ?_ | (simp;done))))
 simp only [b2,if_true]at hR
 rw [b2]at n2
 rcases Bool.eq_false_or_eq_true (p.jump.1==0)with b3 | b3
 case inr=>
  simp only [b3,Bool.false_eq_true,if_false]at hR
  rw [b3]at n3
  subst hR
  refine aD.go gn rfl fun B Q hB hQ=> ?_
  have⟨hF,hP,hY,hZ⟩:=bt
  repeat' (first
 | simp only [go_sem,hF,hP,hY,hZ,b0,n1,n2,n3,e1,e3,Bool.not_true,Bool.not_false]
 | (with_reducible refine CU (h1 _) ?_)
 | (with_reducible refine CU (h2 _) ?_)
 | (with_reducible refine CU (h3 _) ?_)
 | (with_reducible refine CU (h5 _) ?_)
 | (with_reducible refine CU (h6 _) ?_)
 | (with_reducible refine CU (h7 _) ?_)
 | (with_reducible refine CU (h8 _) ?_)
 | (with_reducible refine CU (h9 _) ?_)
 | (with_reducible refine aH hQ ?_;simp only [az,aA,Option.some.injEq,exists_eq_left',go_sem,hF,hP,hY,hZ];repeat' (first | exact Ok.out | with_reducible refine aE ?_ ?_ | (simp;done))))
 simp only [b3,if_true]at hR
 rw [b3]at n3
 subst hR
 refine aD.go gn rfl fun B Q hB hQ=> ?_
 have⟨hF,hP,hY,hZ⟩:=bt
 repeat' (first
 | simp only [go_sem,hF,hP,hY,hZ,b0,n1,n2,n3,e1,e3,Bool.not_true,Bool.not_false]
 | (with_reducible refine CU (h1 _) ?_)
 | (with_reducible refine CU (h2 _) ?_)
 | (with_reducible refine CU (h3 _) ?_)
 | (with_reducible refine CU (h5 _) ?_)
 | (with_reducible refine CU (h6 _) ?_)
 | (with_reducible refine CU (h7 _) ?_)
 | (with_reducible refine CU (h8 _) ?_)
 | (with_reducible refine CU (h9 _) ?_)
 | (with_reducible refine CU (h10 _) ?_)
 | (with_reducible refine aH hQ ?_;simp only [az,aA,Option.some.injEq,exists_eq_left',go_sem,hF,hP,hY,hZ];repeat' (first | exact Ok.out | with_reducible refine aE ?_ ?_ | (simp;done))))
end Go.Abs

/-! Join -/

namespace Go.Abs
open Go.RowKit Go.ChangeShapes Go.WideShapes
def Co (w:World) (b o:Nat):Option Value:=
 match w.cell? ⟨b,o,none⟩with
 | some v=>if v.oneCell'=true then some v else none
 | none=>none
theorem HM {w:World} (b o:Nat) (v:Value) (h:Co w b o=some v):w.cell? ⟨b,o,none⟩=some v∧v.oneCell'=true:=by
 unfold Co at h
 split at h
 ·split at h
  ·cases h;exact⟨‹_›, ‹_›⟩
  ·cases h
 ·cases h
def yc (w:World):Map:=⟨Co w,fun _=>(0, .any),fun _=>none⟩
theorem Kept.sameAt {w w':World} (h:Kept w w') {p:MemPlace} (hp:p.block<w.heap.size):w.sameAt w' p:=by
 have hk:=h.1.2.2 p.block hp
 cases p with
 | cell b off=>
  simp only [MemPlace.block]at hk hp
  simp only [World.sameAt,World.cell?]
  split at hk
  ·rename_i c t fr c' t' fr' e e'
   rw [e,e']
   simp only [hk.2.2.2 off (fun f=>f)]
  ·rename_i es clock wD Yf e e'
   rw [e,e']
  ·rw [hk]
 | map b=>
  simp only [MemPlace.block]at hk hp
  simp only [World.sameAt]
  split at hk
  ·rename_i c t fr c' t' fr' e e'
   rw [e,e']
   obtain⟨rfl,rfl,hs,hc⟩:=hk
   have:c'=c:=by
    apply Array.ext_getElem?
    intro i
    exact hc i (fun f=>f)
   rw [this]
  ·rename_i es clock wD Yf e e'
   rcases hk with f | ⟨rfl,rfl⟩
   ·exact f.elim
   ·rw [e,e']
  ·exact hk
section
variable {P:Program} {H:Type} {enc:TypeId×Value→H} {T:TypeId→Prop}
theorem Bs (K:Kids P T) (hz : ∀ {t e:TypeId},T t→P.underlying t=some (.slice e)→0<P.cellsOf e) {W W':World} (hk:Kept W W') {sp:Nat→Bool} :
 ∀ {ts:List TypeId} {vs:List Value} {ds:List (DataW H)} {ps:List MemPlace},(∀ t∈ts,T t)→(∀ p∈ps,p.block<W.heap.size)→(∀ p∈ps,sp p.block=true)→
  DataW.TrodAll enc P W 0 (fun _=>true) true ts vs ds ps→DataW.TrodAll enc P W' 0 sp true ts vs ds ps
 | [],[],[],_,_,_,_,h=>h
 | t::ts,v::vs,d::ds,ps,hT,hF,hs,⟨p,q,⟨n,h1⟩,h2,e⟩=>by
  subst e
  refine⟨p,q,⟨n,DataW.trod_stays K hz (fun f=>by cases f) (hT t (List.mem_cons_self ..)) h1 (fun x hx=>hk.sameAt (hF x (List.mem_append_left _ hx))) (fun x hx=>hs x (List.mem_append_left _ hx))⟩, ?_,rfl⟩
  exact Bs K hz hk (fun t ht=>hT t (List.mem_cons_of_mem _ ht)) (fun x hx=>hF x (List.mem_append_right _ hx)) (fun x hx=>hs x (List.mem_append_right _ hx)) h2
 | [],[],_::_,_,_,_,_,h=>h.elim
 | [],_::_,_,_,_,_,_,h=>h.elim
 | _::_,[],_,_,_,_,_,h=>h.elim
 | _::_,_::_,[],_,_,_,_,h=>h.elim
theorem Qv (K:Kids P T) (hz : ∀ {t e:TypeId},T t→P.underlying t=some (.slice e)→0<P.cellsOf e) {f:Func} {s:ChangeSpec} {apart fresh handsOn again:Bool} {tb:TypeId} {W W':World} {args:Array Value} {ds gs:List (DataW H)} {before:List MemPlace}
 (hT : ∀ t∈f.params.toList,T t) (hb:P.underlying tb=some .bool) (hr:f.resultTypes = #[tb]) (Bn:s.vars = []) (hW:DataW.Whole enc P f.params.toList s.vars apart W args.toList ds gs before)
 (wR:s.fn H (ds++gs) = {results:= [.lit (.bool true)],args:=ds}) (hk:Kept W W'):s.post enc P f apart fresh handsOn again W args (.bool true) W':=by
 have Yg:=hW
 have hF : ∀ p∈before,p.block<W.heap.size:=fun p hp=>hW.lt p hp
 obtain⟨p,q,hA,hV,rfl,hfz,hnd⟩:=hW
 rw [Bn]at hV
 obtain⟨rfl,rfl⟩:=trodVars_none hV
 simp only [List.append_nil]at hF wR
 refine F5 (pa:=p) (pv:= []) Yg (fun b sp hd=> ?_) (fun sp yS=> ?_) (fun sp yS=> ?_) rfl hk (ok_one hr rfl (okWide_bool_mk hb _))
 ·rw [List.append_nil,wR,hr]
  exact trodAll_cons_mk (shut_bool hb _) trodAll_mk0
 ·rw [List.append_nil,wR]
  simp only [List.append_nil]at yS
  exact Bs K hz hk hT hF yS hA
 ·rw [List.append_nil,wR,Bn]
  rfl
theorem UH {f:FuncId} {args:List D} {fJ:Array Value} {w:World} (h:dT P f args S0 fun d _=>d = .bool true) (hl:fJ.size=args.length)
 (ha : ∀ (i:Nat) (d:D) (v:Value),args[i]? = some d→fJ[i]? = some v→RD (yc w) S0 d v) (kf:Kq w):Calls P f fJ w fun e w'=>e = .returned (.bool true)∧Kept w w':=
 Nh (G:=Co w) h HM hl ha kf
end
end Go.Abs

/-! Join2 -/

namespace Go.Abs
open Go.RowKit Go.ChangeShapes Go.WideShapes
end Go.Abs

/-! Join3 -/

namespace Go.Abs
open Go.RowKit Go.ChangeShapes Go.WideShapes
def eA (W:World) (ds:List D) (cs:List Value):Prop:=ds.length=cs.length∧(∀ (i:Nat) (d:D) (v:Value),ds[i]? = some d→cs[i]? = some v→RD (yc W) S0 d v)∧∀ v∈cs,v.oneCell'=true
theorem eA.one {W:World} {d:D} {v:Value} (h:RD (yc W) S0 d v) (hv:v.oneCell'=true):eA W [d] [v]:=by
 refine⟨rfl,fun i d' v' h1 h2=> ?_,fun u hu=>by simp at hu;subst hu;exact hv⟩
 cases i with
 | zero=>simp at h1 h2;subst h1 h2;exact h
 | succ i=>simp at h1
theorem eA.app {W:World} {ds mL:List D} {cs iw:List Value} (h:eA W ds cs) (h':eA W mL iw):eA W (ds++mL) (cs++iw):=by
 obtain⟨a1,a2,a3⟩:=h
 obtain⟨b1,b2,b3⟩:=h'
 refine⟨by simp [a1,b1],fun i d v h1 h2=> ?_,fun v hv=> ?_⟩
 ·by_cases hi:i<ds.length
  ·rw [List.getElem?_append_left hi]at h1
   rw [List.getElem?_append_left (by omega)]at h2
   exact a2 i d v h1 h2
  ·rw [List.getElem?_append_right (by omega)]at h1
   rw [List.getElem?_append_right (by omega), ← a1]at h2
   exact b2 _ d v h1 h2
 ·rcases List.mem_append.1 hv with hv | hv
  ·exact a3 v hv
  ·exact b3 v hv
theorem eA.at {W:World} {ds mL:List D} {cs:List Value} {o n:Nat} (h:eA W ds ((cs.drop o).take n)) (h':eA W mL (cs.drop (o+n))):eA W (ds++mL) (cs.drop o):=by
 have e:cs.drop o=(cs.drop o).take n++cs.drop (o+n):=by rw [← List.drop_drop,List.take_append_drop]
 rw [e]
 exact h.app h'
theorem eA.end {W:World} {cs:List Value} {o:Nat} (h:cs.length=o):eA W [] (cs.drop o):=by
 rw [← h,List.drop_length]
 exact⟨rfl,fun i d v h=>by simp at h,fun v hv=>by cases hv⟩
section
variable {H:Type} {enc:TypeId×Value→H} {P:Program} {W:World} {sp:Nat→Bool}
def structOf (P:Program) (t:TypeId):List (TypeId×Nat):=
 match P.underlying t with
 | some (.struct fs)=>fs.toList.map fun f=>(f.type,f.offset)
 | _=> []
theorem kB {t:TypeId} {l:List (TypeId×Nat)} {fuel:Nat} {cs:List Value} {x:DataW H×List MemPlace} (h:structOf P t=l) (fl:l≠ []) (ht:DataW.trod enc P W 0 sp true fuel t cs=some x) :
 ∃ n,fuel=n+1∧cs.length=P.cellsOf t∧∀ (i:Nat) (f:TypeId×Nat),l[i]? = some f→∃ y,DataW.trod enc P W 0 sp true n f.1 ((cs.drop f.2).take (P.cellsOf f.1))=some y:=by
 unfold structOf at h
 split at h
 ·rename_i fs hu
  obtain⟨xs,n,e,_,hl,hlen,hf⟩:=DataW.trod_struct hu ht
  refine⟨n,e,hl,fun i f hi=> ?_⟩
  subst h
  rw [List.getElem?_map,Option.map_eq_some_iff]at hi
  obtain⟨g,hg,rfl⟩:=hi
  have Q8:fs[i]? = some g:=by simpa using hg
  have hi:i<xs.length:=by rw [hlen];exact(Array.getElem?_eq_some_iff.1 Q8).1
  exact⟨xs[i],by rw [hf i g Q8,List.getElem?_eq_getElem hi]⟩
 ·exact absurd h.symm fl
theorem DR {t:TypeId} {l:List (TypeId×Nat)} (h:structOf P t=l) (fl:l≠ []) : ∃ fs,P.underlying t=some (.struct fs):=by
 unfold structOf at h
 split at h
 ·exact⟨_, ‹_›⟩
 ·exact absurd h.symm fl
theorem zg {α:Type} {Q:Nat→α→Prop} : ∀ n,(∀ i,i<n→∃ y,Q i y)→∃ ys:List α,ys.length=n∧∀ i y,ys[i]? = some y→Q i y
 | 0,_=>⟨[],rfl,fun i y h=>by simp at h⟩
 | n+1,h=>by
  obtain⟨ys,h1,h2⟩:=zg n fun i hi=>h i (by omega)
  obtain⟨y,hy⟩:=h n (by omega)
  refine⟨ys++ [y],by simp [h1],fun i z hz=> ?_⟩
  by_cases hi:i<ys.length
  ·rw [List.getElem?_append_left hi]at hz;exact h2 i z hz
  ·rw [List.getElem?_append_right (by omega)]at hz
   have:i - ys.length=0:=by
    rcases Nat.eq_zero_or_pos (i - ys.length)with h | h
    ·exact h
    ·rw [List.getElem?_eq_none (by simp only [List.length_cons,List.length_nil];omega)]at hz;cases hz
   rw [this]at hz
   simp at hz
   subst hz
   have:i=n:=by omega
   subst this
   exact hy
theorem nE {α:Type} (en:α→List D) (good:α→Prop) {z:Nat} {t e:TypeId} {fuel:Nat} {cs:List Value} {x:DataW H×List MemPlace} (ht:P.underlying t=some (.slice e)) (hz:P.cellsOf e=z) (hz0:0<z) (Yh : ∀ y,(en y).length=z)
 (hel : ∀ n<fuel,∀ cs x,DataW.trod enc P W 0 sp true n e cs=some x→∃ y,eA W (en y) cs∧good y) (h:DataW.trod enc P W 0 sp true fuel t cs=some x) :
 ∃ ys:List α,eA W [.slice .shared z (ys.map en)] cs∧∀ y∈ys,good y:=by
 rcases DataW.trod_slice ht h with ⟨rfl,_⟩ | ⟨a,len,cap,elems,rest,n,hn,rfl,_,hb,hl,hm,hlen,td,_,_⟩
 ·exact⟨[],eA.one (.iG _ _ _ rfl trivial) rfl,fun y hy=>by cases hy⟩
 ·by_cases h0:len=0
  ·subst h0
   exact⟨[],eA.one (.lU _ _ _) rfl,fun y hy=>by cases hy⟩
  ·obtain⟨ys,hys,uv⟩:=zg (Q:=fun i y=>good y∧∃ iw,W.cells? 0 (a.add (i*z)) z=some iw∧eA W (en y) iw) len fun i hi=>by
    have hc:=td i hi
    rw [List.getElem?_eq_getElem (by omega),hz,Option.bind_eq_some_iff]at hc
    obtain⟨iw,h1,h2⟩:=hc
    obtain⟨y,h3,h4⟩:=hel n (by omega) _ _ h2
    exact⟨y,h4,iw,h1,h3⟩
   have cell : ∀ i y,ys[i]? = some y→∀ (j:Nat) d,(en y)[j]? = some d→∃ v,W.cell? ((a.add (i*z)).add j)=some v∧RD (yc W) S0 d v∧v.oneCell'=true:=by
    intro i y hy j d hd
    obtain⟨_,iw,h1,h2,h3,h4⟩:=uv i y hy
    obtain⟨_,k1,k2⟩:=World.cells?_some h1
    have hj:j<z:=by rw [← Yh y];exact(List.getElem?_eq_some_iff.1 hd).1
    have hv:iw[j]? = some iw[j]:=List.getElem?_eq_getElem (by omega)
    exact⟨iw[j],by rw [k2 j hj,hv],h3 j d _ hd hv,h4 _ (List.getElem_mem _)⟩
   obtain⟨b,off,spot⟩:=a
   have aa8:spot=none:=by
    have hy:ys[0]? = some (ys[0]'(by omega)):=List.getElem?_eq_getElem (by omega)
    obtain⟨d,hd⟩ : ∃ d,(en (ys[0]'(by omega)))[0]? = some d:=⟨_,List.getElem?_eq_getElem (show 0<(en (ys[0]'(by omega))).length by rw [Yh];exact hz0)⟩
    obtain⟨v,hv,_⟩:=cell 0 _ hy 0 _ hd
    have:=World.cell?_spot hv
    simpa [Addr.add]using this
   subst aa8
   have e:(ys.map en).length=len:=by simp [hys]
   have:=RD.slice (M:=yc W) (s:=S0) .shared z (ys.map en) b off cap (by omega) (fun row hr=>by obtain⟨y,_,rfl⟩:=List.mem_map.1 hr;exact Yh y)
    (fun i row j d h1 h2=>by
     rw [List.getElem?_map,Option.map_eq_some_iff]at h1
     obtain⟨y,h1,rfl⟩:=h1
     obtain⟨v,hv,_,h4⟩:=cell i y h1 j d h2
     rw [add_plain,add_plain]at hv
     refine⟨v, ?_⟩
     show Co W b (off+(i*z+j))=_
     unfold Co
     rw [show off+(i*z+j)=off+i*z+j by omega,hv]
     simp [h4])
    (fun i row j d u h1 h2 hu=>by
     rw [List.getElem?_map,Option.map_eq_some_iff]at h1
     obtain⟨y,h1,rfl⟩:=h1
     obtain⟨v,hv,h3,h4⟩:=cell i y h1 j d h2
     rw [add_plain,add_plain]at hv
     obtain⟨hu,_⟩:=HM _ _ _ hu
     rw [show off+(i*z+j)=off+i*z+j by omega,hv]at hu
     cases hu
     exact h3) trivial
   rw [e]at this
   refine⟨ys,eA.one this rfl,fun y hy=> ?_⟩
   obtain⟨i,hi⟩:=List.getElem?_of_mem hy
   exact(uv i y hi).1
theorem Bt {t:TypeId} {fuel:Nat} {cs:List Value} {x:DataW H×List MemPlace} (ht:P.underlying t=some (.int .i64)) (h:DataW.trod enc P W 0 sp true fuel t cs=some x) : ∃ n:Int,eA W [.int .i64 n] cs∧n≤9223372036854775807∧ -9223372036854775808≤n:=by
 obtain⟨n,rfl,_,hw⟩:=DataW.trod_int ht h
 simp [Lit.wf,IntKind.min,IntKind.max,IntKind.signed,IntKind.bits]at hw
 exact⟨n,eA.one (.int _ _) rfl,by omega,by omega⟩
theorem Cp {t:TypeId} {fuel:Nat} {cs:List Value} {x:DataW H×List MemPlace} (ht:P.underlying t=some .bool) (h:DataW.trod enc P W 0 sp true fuel t cs=some x) : ∃ b:Bool,eA W [.bool b] cs:=by
 obtain⟨n,rfl,_⟩:=DataW.trod_bool ht h
 exact⟨n,eA.one (.bool _) rfl⟩
theorem sX {t:TypeId} {fuel:Nat} {cs:List Value} {x:DataW H×List MemPlace} (ht:P.underlying t=some .string) (h:DataW.trod enc P W 0 sp true fuel t cs=some x) : ∃ s:aB,eA W (encStr s) cs∧s.length≤maxLen:=by
 obtain⟨s,rfl,_,hm⟩:=DataW.trod_string ht h
 obtain⟨⟨l⟩⟩:=s
 exact⟨l,eA.one (.str l) rfl,hm⟩
theorem aa9 {tE tI tN tS tK:TypeId} (hE:structOf P tE = [(tI,0),(tN,1),(tS,2),(tK,3)]) (hEc:P.cellsOf tE=4) (hI:P.underlying tI=some (.int .i64)) (hN:P.underlying tN=some (.int .i64)) (hS:P.underlying tS=some .string) (hK:P.underlying tK=some (.slice tE))
 (cI:P.cellsOf tI=1) (cN:P.cellsOf tN=1) (cS:P.cellsOf tS=1) (cK:P.cellsOf tK=1) :
 ∀ (fuel:Nat) (cs:List Value) (x:DataW H×List MemPlace),DataW.trod enc P W 0 sp true fuel tE cs=some x→∃ y:Ex,eA W (bp y) cs∧y.pB:=by
 intro fuel
 induction fuel using Nat.strongRecOn with
 | _ fuel ih=>
  intro cs x h
  obtain⟨n,rfl,hl,hf⟩:=kB hE (by simp) h
  obtain⟨y0,h0⟩:=hf 0 _ rfl
  obtain⟨y1,h1⟩:=hf 1 _ rfl
  obtain⟨y2,h2⟩:=hf 2 _ rfl
  obtain⟨y3,h3⟩:=hf 3 _ rfl
  dsimp only at h0 h1 h2 h3
  rw [cI]at h0
  rw [cN]at h1
  rw [cS]at h2
  rw [cK]at h3
  obtain⟨op,r0,_⟩:=Bt hI h0
  obtain⟨m,r1,hm,_⟩:=Bt hN h1
  obtain⟨s,r2,_⟩:=sX hS h2
  obtain⟨ks,r3,hg⟩:=nE (W:=W) bp Ex.pB hK hEc (by decide) Rc (fun k hk cs x hx=>ih k (by omega) cs x hx) h3
  refine⟨⟨op,m,s,ks⟩, ?_,hm, ?_⟩
  ·have:=r0.at (r1.at (r2.at (r3.at (eA.end (by rw [hl,hEc])))))
   rw [gf]
   simpa [encStr]using this
  ·clear r3
   induction ks with
   | nil=>exact trivial
   | cons k ks ihk=>exact⟨hg k (by simp),ihk fun y hy=>hg y (by simp [hy])⟩
theorem eA.agg {ds:List D} {v:Value} (h:eA W ds v.cells.toList) (hv : ∃ vs,v = .agg vs):RD (yc W) S0 (.agg ds) v:=by
 obtain⟨vs,rfl⟩:=hv
 obtain⟨h1,h2,h3⟩:=h
 have e:(Value.agg vs).cells=vs:=rfl
 rw [e]at h1 h2 h3
 refine .agg ds vs (by simpa using h1) (fun v hv=>h3 v (by simpa using hv)) fun i d v hd hv=>h2 i d v hd (by simpa using hv)
end
end Go.Abs

/-! Join4 -/

namespace Go.Abs
open Go.Proofs Go.RowKit Go.ChangeShapes Go.WideShapes
section
variable {H:Type} {enc:TypeId×Value→H} {W:World} {sp:Nat→Bool}
theorem Nu (fuel:Nat) (cs:List Value) (x:DataW H×List MemPlace) (h:DataW.trod enc Tryz.prog W 0 sp true fuel 50 cs=some x) : ∃ y:Ex,eA W (bp y) cs∧y.pB:=
 aa9 (tE:=50) (tI:=3) (tN:=2) (tS:=9) (tK:=48) (by kernel_rfl) (by kernel_rfl) (by kernel_rfl) (by kernel_rfl) (by kernel_rfl) (by kernel_rfl) (by kernel_rfl) (by kernel_rfl) (by kernel_rfl) (by kernel_rfl) _ _ _ h
theorem UI:Tryz.prog.underlying 22=some (.slice 9):=by kernel_rfl
theorem vF:Tryz.prog.underlying 9=some .string:=by kernel_rfl
theorem Nv:Tryz.prog.underlying 3=some (.int .i64):=by kernel_rfl
theorem Cq:Tryz.prog.underlying 4=some .bool:=by kernel_rfl
theorem yd:Tryz.prog.cellsOf 9=1:=by kernel_rfl
theorem Yl:Tryz.prog.cellsOf 3=1:=by kernel_rfl
theorem Cr:Tryz.prog.cellsOf 4=1:=by kernel_rfl
theorem Cs:Tryz.prog.cellsOf 22=1:=by kernel_rfl
theorem SZ:Tryz.prog.cellsOf 50=4:=by kernel_rfl
theorem wz {fuel:Nat} {cs:List Value} {x:DataW H×List MemPlace} (h:DataW.trod enc Tryz.prog W 0 sp true fuel 22 cs=some x) : ∃ l:List aB,eA W [.slice .shared 1 (l.map encStr)] cs:=by
 obtain⟨l,h,_⟩:=nE (W:=W) encStr (fun _=>True) UI yd (by decide) (fun _=>rfl) (fun k hk cs x hx=>by
  obtain⟨s,hs,_⟩:=sX vF hx
  exact⟨s,hs,trivial⟩) h
 exact⟨l,h⟩
theorem Ym {fuel:Nat} {cs:List Value} {x:DataW H×List MemPlace} (h:DataW.trod enc Tryz.prog W 0 sp true fuel 42 cs=some x) : ∃ y:Pm,eA W (fD y) cs:=by
 obtain⟨n,rfl,hl,hf⟩:=kB (l:= [(9,0),(4,1)]) (by kernel_rfl) (by simp) h
 have hc:Tryz.prog.cellsOf 42=2:=by kernel_rfl
 obtain⟨y0,h0⟩:=hf 0 _ rfl
 obtain⟨y1,h1⟩:=hf 1 _ rfl
 dsimp only at h0 h1
 rw [yd]at h0
 rw [Cr]at h1
 obtain⟨s,r0,_⟩:=sX vF h0
 obtain⟨b,r1⟩:=Cp Cq h1
 refine⟨⟨s,b⟩, ?_⟩
 have:=r0.at (r1.at (eA.end (by rw [hl,hc])))
 simpa [encStr,fD]using this
theorem Yn {fuel:Nat} {cs:List Value} {x:DataW H×List MemPlace} (h:DataW.trod enc Tryz.prog W 0 sp true fuel 123 cs=some x) : ∃ y:Ar,eA W (dO y) cs∧y.x.pB:=by
 obtain⟨n,rfl,hl,hf⟩:=kB (l:= [(4,0),(9,1),(50,2)]) (by kernel_rfl) (by simp) h
 have hc:Tryz.prog.cellsOf 123=6:=by kernel_rfl
 obtain⟨y0,h0⟩:=hf 0 _ rfl
 obtain⟨y1,h1⟩:=hf 1 _ rfl
 obtain⟨y2,h2⟩:=hf 2 _ rfl
 dsimp only at h0 h1 h2
 rw [Cr]at h0
 rw [yd]at h1
 rw [SZ]at h2
 obtain⟨b,r0⟩:=Cp Cq h0
 obtain⟨s,r1,_⟩:=sX vF h1
 obtain⟨e,r2,hr⟩:=Nu _ _ _ h2
 refine⟨⟨b,s,e⟩, ?_,hr⟩
 have:=r0.at (r1.at (r2.at (eA.end (by rw [hl,hc]))))
 rw [gf]at this
 simpa [encStr,dO]using this
theorem wA : ∀ {l:List Sm},(∀ s∈l,s.pB)→Sm.uM l
 | [],_=>trivial
 | s::l,h=>⟨h s (List.mem_cons_self ..),wA fun t m=>h t (List.mem_cons_of_mem _ m)⟩
theorem Yo : ∀ (fuel:Nat) (cs:List Value) (x:DataW H×List MemPlace),DataW.trod enc Tryz.prog W 0 sp true fuel 53 cs=some x→∃ y:Sm,eA W (bc y) cs∧y.pB:=by
 intro fuel
 induction fuel using Nat.strongRecOn with
 | _ fuel ih=>
  intro cs x h
  obtain⟨n,rfl,hl,hf⟩:=kB (l:= [(3,0),(3,1),(22,2),(9,3),(9,4),(50,5),(4,9),(51,10),(44,11),(44,12)]) (by kernel_rfl) (by simp) h
  have hc:Tryz.prog.cellsOf 53=13:=by kernel_rfl
  have ca:Tryz.prog.cellsOf 51=1:=by kernel_rfl
  have iw:Tryz.prog.cellsOf 44=1:=by kernel_rfl
  have ua:Tryz.prog.underlying 51=some (.slice 123):=by kernel_rfl
  have us:Tryz.prog.underlying 44=some (.slice 53):=by kernel_rfl
  have ca6:Tryz.prog.cellsOf 123=6:=by kernel_rfl
  obtain⟨y0,h0⟩:=hf 0 _ rfl
  obtain⟨y1,h1⟩:=hf 1 _ rfl
  obtain⟨y2,h2⟩:=hf 2 _ rfl
  obtain⟨y3,h3⟩:=hf 3 _ rfl
  obtain⟨y4,h4⟩:=hf 4 _ rfl
  obtain⟨y5,h5⟩:=hf 5 _ rfl
  obtain⟨y6,h6⟩:=hf 6 _ rfl
  obtain⟨y7,h7⟩:=hf 7 _ rfl
  obtain⟨y8,h8⟩:=hf 8 _ rfl
  obtain⟨y9,h9⟩:=hf 9 _ rfl
  dsimp only at h0 h1 h2 h3 h4 h5 h6 h7 h8 h9
  rw [Yl]at h0 h1
  rw [Cs]at h2
  rw [yd]at h3 h4
  rw [SZ]at h5
  rw [Cr]at h6
  rw [ca]at h7
  rw [iw]at h8 h9
  obtain⟨id,r0,_⟩:=Bt Nv h0
  obtain⟨kind,r1,_⟩:=Bt Nv h1
  obtain⟨labels,r2⟩:=wz h2
  obtain⟨name,r3,_⟩:=sX vF h3
  obtain⟨proc,r4,_⟩:=sX vF h4
  obtain⟨e,r5,hr⟩:=Nu _ _ _ h5
  obtain⟨b,r6⟩:=Cp Cq h6
  obtain⟨args,r7,ha⟩:=nE (W:=W) dO (fun a=>a.x.pB) ua ca6 (by decide) (fun _=>rfl) (fun k hk cs x hx=>Yn hx) h7
  obtain⟨a7,r8,ht⟩:=nE (W:=W) bc Sm.pB us hc (by decide) DW (fun k hk cs x hx=>ih k (by omega) cs x hx) h8
  obtain⟨aW,r9,he⟩:=nE (W:=W) bc Sm.pB us hc (by decide) DW (fun k hk cs x hx=>ih k (by omega) cs x hx) h9
  refine⟨⟨id,kind,labels,name,proc,e,b,args,a7,aW⟩, ?_,hr,ha,wA ht,wA he⟩
  have:=r0.at (r1.at (r2.at (r3.at (r4.at (r5.at (r6.at (r7.at (r8.at (r9.at (eA.end (by rw [hl,hc])))))))))))
  rw [gf]at this
  rw [di]
  simpa [encStr]using this
theorem Yp {fuel:Nat} {cs:List Value} {x:DataW H×List MemPlace} (h:DataW.trod enc Tryz.prog W 0 sp true fuel 46 cs=some x) : ∃ y:Pc,eA W (cz y) cs∧Sm.uM y.body:=by
 obtain⟨n,rfl,hl,hf⟩:=kB (l:= [(9,0),(43,1),(22,2),(44,3),(22,4)]) (by kernel_rfl) (by simp) h
 have hc:Tryz.prog.cellsOf 46=5:=by kernel_rfl
 have cp:Tryz.prog.cellsOf 43=1:=by kernel_rfl
 have iw:Tryz.prog.cellsOf 44=1:=by kernel_rfl
 have up:Tryz.prog.underlying 43=some (.slice 42):=by kernel_rfl
 have us:Tryz.prog.underlying 44=some (.slice 53):=by kernel_rfl
 have cp2:Tryz.prog.cellsOf 42=2:=by kernel_rfl
 have ajh:Tryz.prog.cellsOf 53=13:=by kernel_rfl
 obtain⟨y0,h0⟩:=hf 0 _ rfl
 obtain⟨y1,h1⟩:=hf 1 _ rfl
 obtain⟨y2,h2⟩:=hf 2 _ rfl
 obtain⟨y3,h3⟩:=hf 3 _ rfl
 obtain⟨y4,h4⟩:=hf 4 _ rfl
 dsimp only at h0 h1 h2 h3 h4
 rw [yd]at h0
 rw [cp]at h1
 rw [Cs]at h2 h4
 rw [iw]at h3
 obtain⟨name,r0,_⟩:=sX vF h0
 obtain⟨ps,r1,_⟩:=nE (W:=W) fD (fun _=>True) up cp2 (by decide) (fun _=>rfl) (fun k hk cs x hx=>by
  obtain⟨y,hy⟩:=Ym hx
  exact⟨y,hy,trivial⟩) h1
 obtain⟨vars,r2⟩:=wz h2
 obtain⟨body,r3,hb⟩:=nE (W:=W) bc Sm.pB us ajh (by decide) DW (fun k hk cs x hx=>Yo k cs x hx) h3
 obtain⟨fin,r4⟩:=wz h4
 refine⟨⟨name,ps,vars,body,fin⟩, ?_,wA hb⟩
 have:=r0.at (r1.at (r2.at (r3.at (r4.at (eA.end (by rw [hl,hc]))))))
 simpa [encStr,cz]using this
theorem Yq {fuel:Nat} {cs:List Value} {x:DataW H×List MemPlace} (h:DataW.trod enc Tryz.prog W 0 sp true fuel 25 cs=some x) : ∃ y:Pg,eA W (cj y) cs∧y.pB:=by
 obtain⟨n,rfl,hl,hf⟩:=kB (l:= [(22,0),(23,1)]) (by kernel_rfl) (by simp) h
 have hc:Tryz.prog.cellsOf 25=2:=by kernel_rfl
 have cp:Tryz.prog.cellsOf 23=1:=by kernel_rfl
 have up:Tryz.prog.underlying 23=some (.slice 46):=by kernel_rfl
 have cp5:Tryz.prog.cellsOf 46=5:=by kernel_rfl
 obtain⟨y0,h0⟩:=hf 0 _ rfl
 obtain⟨y1,h1⟩:=hf 1 _ rfl
 dsimp only at h0 h1
 rw [Cs]at h0
 rw [cp]at h1
 obtain⟨globals,r0⟩:=wz h0
 obtain⟨procs,r1,hp⟩:=nE (W:=W) cz (fun f=>Sm.uM f.body) up cp5 (by decide) (fun _=>rfl) (fun k hk cs x hx=>Yp hx) h1
 refine⟨⟨globals,procs⟩, ?_,hp⟩
 have:=r0.at (r1.at (eA.end (by rw [hl,hc])))
 simpa [cj]using this
end
end Go.Abs

/-! Join5 -/

namespace Go.Abs
open Go.Proofs Go.ChangeShapes Go.WideShapes Go.ChangeAt Go.RowKit
theorem Nw {H:Type} {enc:TypeId×Value→H} {P:Program} {W:World} {sp:Nat→Bool} {t:TypeId} {ts:List TypeId} {ps:List MemPlace} : ∀ {l:List Value} {ds:List (DataW H)},DataW.TrodAll enc P W 0 sp true (t::ts) l ds ps→
 ∃ v l' d mL p q,l=v::l'∧ds=d::mL∧DataW.Trod enc P W 0 sp true t v d p∧DataW.TrodAll enc P W 0 sp true ts l' mL q
 | v::l,d::ds,⟨p,q,h1,h2,e⟩=>⟨v,l,d,ds,p,q,rfl,rfl,h1,h2⟩
 | [],[],h=>h.elim
 | [],_::_,h=>h.elim
 | _::_,[],h=>h.elim
theorem Qw {H:Type} {enc:TypeId×Value→H} {P:Program} {W:World} {sp:Nat→Bool} {ps:List MemPlace} : ∀ {l:List Value} {ds:List (DataW H)},DataW.TrodAll enc P W 0 sp true [] l ds ps→l = []∧ds = []
 | [],[],_=>⟨rfl,rfl⟩
 | [],_::_,h=>h.elim
 | _::_,ds,h=>by cases ds <;> exact h.elim
end Go.Abs

/-! CheckOrder -/

namespace Go.Proofs.YtiopamakecmpkaaGreat.checkOrder
open Go.ChangeShapes Go.WideShapes Go.ChangeAt Go.RowKit Go.Abs
theorem own:ownKnob Tryz.prog.godebug=none:=by kernel_rfl
theorem kids:Kids Tryz.prog (· < Tryz.prog.types.size):=kids_rows (by kernel_rfl) (by kernel_rfl)
theorem full : ∀ {t e:TypeId},t<Tryz.prog.types.size→Tryz.prog.underlying t=some (.slice e)→0<Tryz.prog.cellsOf e:=fun {t e}=>slices_full_of Tryz.prog (by kernel_rfl) t e
theorem walk (w:World) (x0:Pg) (KV:x0.pB) (v0:Value) (Yr:RD (yc w) S0 (.agg (cj x0)) v0):Calls Tryz.prog 5 #[v0] w fun e w'=>e = .returned (.bool true)∧Kept w w':=by
 refine UH (args:= [.agg (cj x0)]) ((Cn x0 S0).mono fun _ _ h=>h.1) rfl ?_ (fun _ _ h=>nomatch h)
 intro i d v h1 h2
 match i,h1,h2 with
 | 0,h1,h2=>simp at h1 h2;subst h1 h2;exact Yr
set_option maxRecDepth 100000 in
theorem lifted (os : Os) (started : os.Started) (H : Type) (enc : TypeId × Value → H) :
   ReturnsInHanded {} Tryz.checked os 5 .any (Rows.checkOrderSpec.pre6 enc Tryz.prog Tryz.f5 Rows.checkOrderRow.domain false) (Rows.checkOrderSpec.post enc Tryz.prog Tryz.f5 false true false false) := by
 refine returnsInHanded_of_change (C := Tryz.checked) own started (by kernel_rfl) Tryz.func5
   (ChangeSpec.witness6 (enc := enc) (C := Tryz.checked) false ⟨#[], #[.agg #[.slice none 0 0, .slice none 0 0]], []⟩ 8 (by kernel_rfl) (by kernel_rfl) (by kernel_rfl) (by kernel_rfl)) ?_
 intro W base args ds gs before abg hW kS _
 have q6 : ∀ (j : Nat) t v, Tryz.f5.params[j]? = some t → args[j]? = some v → Value.okWide Tryz.prog W .any base t v := abg
 have Yg := hW
 obtain ⟨p, q, Ys, hV, rfl, hfz, hnd⟩ := hW
 have hA : DataW.TrodAll enc Tryz.prog W 0 (fun _ => true) true Tryz.f5.params.toList args.toList ds p := Ys
 rw [Tryz.params5] at hA q6
 obtain ⟨l⟩ := args
 obtain ⟨v0, l0, d0, ds0, p0, q0, e0, e0d, SE, Ys⟩ := Nw hA
 obtain ⟨en, end_⟩ := Qw Ys
 have el : l = [v0] := by rw [show l = _ from e0, en]
 subst el
 have ed : ds = [d0] := by rw [e0d, end_]
 clear e0d
 subst ed
 have hpg : ∀ (i : Nat) (v : Value), Tryz.f5.params[i]? = some 25 → (⟨[v0]⟩ : Array Value)[i]? = some v → ∀ {d ps}, DataW.Trod enc Tryz.prog W 0 (fun _ => true) true 25 v d ps → ∃ x : Pg, RD (yc W) S0 (.agg (cj x)) v ∧ x.pB := by
   intro i v hp hv d ps ⟨fuel, hf⟩
   obtain ⟨y, h1, h2⟩ := Yq hf
   obtain ⟨fs, Af⟩ := DR (P := Tryz.prog) (t := 25) (l := [(22, 0), (23, 1)]) (by kernel_rfl) (by simp)
   obtain ⟨cs, e, _⟩ := okWide_struct Af (q6 i 25 v (by rw [← Tryz.params5]; exact hp) hv)
   exact ⟨y, h1.agg ⟨cs, e⟩, h2⟩
 obtain ⟨x0, Yr, KV⟩ := hpg 0 v0 (by rw [Tryz.params5]; rfl) rfl SE
 obtain ⟨rfl, rfl⟩ := trodVars_none hV
 refine (walk W x0 KV v0 Yr).mono fun e W' ⟨he, hg⟩ => ?_
 subst he
 exact ⟨_, rfl, Qv kids full (by rw [Tryz.params5]; decide) Tryz.underlying4 (by kernel_rfl) rfl Yg rfl hg⟩
theorem over:Rows.checkOrderRow.holds Tryz.pinned (OpenSpec.ofChange Rows.checkOrderSpec):=
 OpenClaim.holds_of_wide 5 Tryz.f5 rfl rfl rfl rfl rfl rfl rfl ⟨rfl,rfl,rfl,rfl,rfl⟩ rfl rfl rfl rfl rfl (by kernel_rfl) Tryz.func5 (by kernel_rfl)
  (of_decide_eq_true (by kernel_rfl)) (by unfold Func.isWrapper;first | (rw [if_pos (by decide +kernel)];kernel_rfl) | (rw [if_neg (by decide +kernel)];exact⟨rfl,rfl⟩))
  (fun os started H enc _=>lifted os started H enc)
theorem proved:Rows.CheckOrderSaid:=
 over
#print axioms proved
end Go.Proofs.YtiopamakecmpkaaGreat.checkOrder
