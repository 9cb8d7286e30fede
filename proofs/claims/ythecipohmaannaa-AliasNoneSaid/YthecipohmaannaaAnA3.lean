/-
  What is proved here: the statement AliasNoneSaid: whatever the arguments, the law, called, gives true, and of what was there nothing turns.
  No conditions.
-/
import Derived.Test.YthecipohmaannaaAnA2
import Derived.RowKit3
import Derived.WalkKit
import Derived.ProofKit
import Derived.OpenShut
import Derived.ShutString
import Derived.ChangeMaps5
import Derived.ChangeStays
import Derived.KernelRfl
import Derived.Test.YthecipohmaannaaRows

set_option linter.unusedSimpArgs false
set_option linter.unusedVariables false

/-! Al2 -/

namespace Go.Abs
set_option maxRecDepth 8000
open Go.Proofs
theorem vu {p:Pg} (h:(p.arity.1==0)=true):(p.scope.1==0)=true∧∀ v∈p.pre,(v.kind==4)=true→v.jS p=true:=by
 unfold Pg.arity at h
 split at h
 ·rename_i e
  refine⟨e,fun v hv hk=> ?_⟩
  have : ∀ l:List Sm,((mL 6 (AQ p l)).1==0)=true→∀ v∈l,(v.kind==4)=true→v.jS p=true:=by
   intro l
   induction l with
   | nil=>intro _ v m;cases m
   | cons a l ih=>
    intro h v m hk
    simp only [AQ]at h
    split at h
    ·cases h
    ·rename_i c
     rcases List.mem_cons.1 m with rfl | m
     ·simpa [hk]using c
     ·exact ih h v m hk
  exact this _ h v hv hk
 ·cases h
theorem G1 {p:Pg} {v:Sm} (h:v.jS p=true) : ∃ f,p.find v.proc=some f:=by
 unfold Sm.jS at h
 cases e:p.find v.proc with
 | some f=>exact⟨f,rfl⟩
 | none=>rw [e]at h;simp at h
def Sm.ny (p:Pg) (v:Sm):Bool:=jC v.name (p.lF v.proc) [] v.args
def A3 (p:Pg):List Sm→Option Sm
 | []=>none
 | v::l=>if v.kind==4 && !(v.ny p)then some v else A3 p l
def Pg.alias (p:Pg):Int×Int:=if p.arity.1==0 then mL 8 (A3 p p.pre)else(1,0)
theorem tQ {p:Pg} (h:p.kY) (nm:aD):(p.lF nm).length<4611686018427387904:=by
 unfold Pg.lF
 cases hs:p.rU nm with
 | none=>dsimp only;decide
 | some f=>
  obtain⟨n6,hf⟩:=yv hs
  have h1:=(AY n6 hf).len
  have h2:=h.procs
  have h3:=(rX h (gn (p.work nm)) []).2
  have h4:(gn (p.work nm)).length*1800000≤900000*1800000:=Nat.mul_le_mul_right _ (by omega)
  have h5:(gn (p.nw nm)).length≤(p.nw nm).length:=ql _ _ (oY (iU _).1) fun x m=>((iU _).2 x).1 m
  dsimp only
  unfold Pg.nw at *
  simp only [List.length_nil]at h3
  omega
theorem rZ {v:Sm} (hv:v.kc):v.args.length<1000000000:=by have:=Ar.cP v.args;have:=hv.2.2;omega
theorem A4 {p:Pg} {v:Sm} (h:p.kY) (hv:v.kc) (s:St):aI Try.prog mr [.agg (bS p), .agg (bf v)] s (.bool (p.arity.1==0 && (v.jS p && v.ny p))) s:=by
 refine aI.pure ?_ (by simp [D.bI,D.ok,km,mn]) rfl s
 have nR:=fun s=>vo h s
 have yj:=fun s=>LQ h hv s
 have EN:=fun s=>yw h v.proc s
 have xK:=fun s=>AZ (rZ hv) (tQ h v.proc) s
 have b0:(p.arity.1 != 0) = !(p.arity.1==0):=rfl
 unfold Sm.ny
 unfold S0
 rcases Bool.eq_false_or_eq_true (p.arity.1==0)with b1 | b1
 ·rw [b1]at b0
  have n6:=(vu b1).1
  simp only [n6,Bool.true_and]at yj
  simp only [b1,Bool.true_and]
  rcases Bool.eq_false_or_eq_true (v.jS p)with b2 | b2
  all_goals
   simp only [b2,Bool.true_and,Bool.false_and]
   refine aI.go q5 rfl fun B Q hB hQ=> ?_
   have⟨hD,hJ,hP,hY⟩:=cf
   repeat' (first
 | simp only [go_sem,hD,hJ,hP,hY,b0,b2,Bool.not_true,Bool.not_false]
 | (with_reducible refine CU (nR _) ?_)
 | (with_reducible refine CU (yj _) ?_)
 | (with_reducible refine CU (EN _) ?_)
 | (with_reducible refine CU (xK _) ?_)
 | (with_reducible refine aJ hQ ?_;simp only [az,aB,Option.some.injEq,exists_eq_left',go_sem,hD,hJ,hP,hY];repeat' (first | exact Ok.out | with_reducible refine aO ?_ ?_ | (simp;done))))
 ·rw [b1]at b0
  simp only [b1,Bool.false_and]
  refine aI.go q5 rfl fun B Q hB hQ=> ?_
  have⟨hD,hJ,hP,hY⟩:=cf
  repeat' (first
 | simp only [go_sem,hD,hJ,hP,hY,b0,Bool.not_false]
 | (with_reducible refine CU (nR _) ?_)
 | (with_reducible refine aJ hQ ?_;simp only [az,aB,Option.some.injEq,exists_eq_left',go_sem,hD,hJ,hP,hY];repeat' (first | exact Ok.out | with_reducible refine aO ?_ ?_ | (simp;done))))
theorem yx {p:Pg} (h:p.kY) (s:St):aI Try.prog ka [.agg (bS p)] s (.agg [.int .i64 p.alias.1, .int .i64 p.alias.2]) s:=by
 refine aI.pure ?_ (by simp [D.bI,D.ok,km]) rfl s
 obtain⟨qW,qf,uL⟩:=h.procs
 have nR:=fun s=>vo h s
 have cU:=fun s=>ze (p:=p) (by omega) s
 have hL:=(lY p).1
 have Rr:=lZ p
 generalize hR:p.alias=R
 simp only [Pg.alias]at hR
 unfold S0
 have b0:(p.arity.1 != 0) = !(p.arity.1==0):=rfl
 rcases Bool.eq_false_or_eq_true (p.arity.1==0)with b1 | b1
 case inr=>
  rw [b1]at b0
  simp only [b1,Bool.false_eq_true,if_false]at hR
  subst hR
  refine aI.go qa rfl fun B Q hB hQ=> ?_
  have⟨hD,hJ,hP,hY⟩:=cf
  repeat' (first
 | simp only [go_sem,hD,hJ,hP,hY,b0,Bool.not_false]
 | (with_reducible refine CU (nR _) ?_)
 | (with_reducible refine aJ hQ ?_;simp only [az,aB,Option.some.injEq,exists_eq_left',go_sem,hD,hJ,hP,hY];repeat' (first | exact Ok.out | with_reducible refine aO ?_ ?_ | (simp;done))))
 rw [b1]at b0
 obtain⟨n6,ib⟩:=vu b1
 have Z1:=(AV n6).2.1
 simp only [b1,if_true, ← hL]at hR
 refine aI.go qa rfl fun B Q hB hQ=> ?_
 have⟨hD,hJ,hP,hY⟩:=cf
 repeat' (first
 | simp only [go_sem,hD,hJ,hP,hY,b0,Bool.not_true]
 | (with_reducible refine CU (nR _) ?_)
 | (with_reducible refine aJ hQ ?_;simp only [az,aB,Option.some.injEq,exists_eq_left',go_sem,hD,hJ,hP,hY];repeat' (first | exact Ok.out | with_reducible refine aO ?_ ?_ | (simp;done))))
 refine dA 3 0 ?_ ?_ (bp.ind (ι:=List Pc×Nat×List Pc) (fun i=>p.procs.drop i.2.1=i.1∧p.procs=i.2.2++i.1) (fun i=>i.1.length)
  (fun i=> [(1, .ptr 0 0),(2, .ptr 1 0),(3, .eU 2),(15, .slice .shared 5 (p.procs.map bL)),(16, .int .i64 (p.procs.length:Int)),(17, .int .i64 (i.2.1:Int))]) (fun i=>⟨[bS p,[.int .i64 0, .int .i64 0],jD p i.2.2],[]⟩) ?_ (p.procs,0,[]) ⟨rfl,rfl⟩)
 ·(simp only [go_sem,hD,hJ,hP,hY,jD];try exact bw)
 ·(simp only [go_sem,hD,hJ,hP,hY,jD];try exact bw)
 rintro⟨rest,k,done⟩ ⟨h1,h2⟩ IH
 dsimp only at h1 h2
 cases rest with
 | cons a rest=>
  obtain⟨hJ,g2,hD,g4⟩:=drop_cons h1
  have bB:k<4611686018427387904:=by omega
  have EN:=fun s=>yw h a.name s
  have N6:a.name∉done.map (·.name):=by
   have:=LX _ [] Z1 (done.map (·.name)) a.name (rest.map (·.name)) (by simp [Pg.pn,h2])
   simpa using this
  have Z2:qq a.name (.slice .shared 1 ((p.lF a.name).map encStr)) (jD p done)=some (jD p (done++ [a])):=by
   rw [A1 N6,A0];rfl
  repeat' (first
 | simp only [go_sem,hD,hJ,hP,hY,Z2]
 | (with_reducible refine CU (EN _) ?_)
 | (with_reducible refine aJ hQ ?_;simp only [az,aB,Option.some.injEq,exists_eq_left',go_sem,hD,hJ,hP,hY];repeat' (first | exact Ok.out | with_reducible refine aO ?_ ?_ | (simp;done))))
  refine dA 3 0 ?_ ?_ (IH (rest,k+1,done++ [a]) ⟨g2,by rw [h2];simp⟩ (Nat.lt_succ_self _))
  ·(simp only [go_sem,hD,hJ,hP,hY,aH bB];try exact bw)
  ·(simp only [go_sem,hD,hJ,hP,hY,aH bB];try exact bw)
 | nil=>
  have hD:=drop_nil h1
  rw [List.append_nil]at h2
  subst h2
  repeat' (first
 | simp only [go_sem,hD,hJ,hP,hY,rN]
 | (with_reducible refine CU (cU _) ?_)
 | (with_reducible refine aJ hQ ?_;simp only [az,aB,Option.some.injEq,exists_eq_left',go_sem,hD,hJ,hP,hY];repeat' (first | exact Ok.out | with_reducible refine aO ?_ ?_ | (simp;done))))
  refine dF 3 0 (bp.ind (ι:=List Im×Nat) (fun i=>p.dM.L.drop i.2=i.1∧mL 8 (A3 p (i.1.map Im.s))=R) (fun i=>i.1.length)
   (fun i=> [(1, .ptr 0 0),(2, .ptr 1 0),(3, .eU 2),(33, .slice .shared 17 (p.dM.L.map dW)),(34, .int .i64 (p.dM.L.length:Int)),(35, .int .i64 (i.2:Int))]) (fun i=>⟨[bS p,[.int .i64 0, .int .i64 0],jD p p.procs],[]⟩) ?_ (p.dM.L,0) ⟨rfl,hR⟩)
  clear hR
  rintro⟨rest,k⟩ ⟨h1,hR⟩ IH
  dsimp only at h1 hR
  cases rest with
  | nil=>
   have hD:=drop_nil h1
   simp only [List.map_nil,A3,mL]at hR
   subst hR
   repeat' (first
 | simp only [go_sem,hD,hJ,hP,hY]
 | (with_reducible refine aJ hQ ?_;simp only [az,aB,Option.some.injEq,exists_eq_left',go_sem,hD,hJ,hP,hY];repeat' (first | exact Ok.out | with_reducible refine aO ?_ ?_ | (simp;done))))
  | cons a rest=>
   obtain⟨hJ,g2,hD,g4⟩:=drop_cons h1
   have bB:k<4611686018427387904:=by omega
   have Cd:a.s∈p.pre:=by rw [← hL];exact List.mem_map_of_mem (List.mem_of_getElem? hJ)
   have xK:=fun s=>AZ (rZ (h.pre _ Cd)) (tQ h a.s.proc) s
   simp only [List.map_cons,A3,Sm.ny]at hR
   rcases Bool.eq_false_or_eq_true (a.s.kind==4)with c1 | c1
   ·obtain⟨f,hf⟩:=G1 (ib _ Cd c1)
    have RE:=fun z=>A2 (p:=p) (z:=z) hf
    rcases Bool.eq_false_or_eq_true (jC a.s.name (p.lF a.s.proc) [] a.s.args)with c2 | c2
    ·simp only [c1,c2,Bool.not_true,Bool.and_false,Bool.false_eq_true,if_false]at hR
     repeat' (first
 | simp only [go_sem,hD,hJ,hP,hY,c1,c2,RE]
 | (with_reducible refine CU (xK _) ?_)
 | (with_reducible refine aJ hQ ?_;simp only [az,aB,Option.some.injEq,exists_eq_left',go_sem,hD,hJ,hP,hY];repeat' (first | exact Ok.out | with_reducible refine aO ?_ ?_ | (simp;done))))
     refine dA 3 0 ?_ ?_ (IH (rest,k+1) ⟨g2,hR⟩ (Nat.lt_succ_self _))
     ·(simp only [go_sem,hD,hJ,hP,hY,aH bB];try exact bw)
     ·(simp only [go_sem,hD,hJ,hP,hY,aH bB];try exact bw)
    ·simp only [c1,c2,Bool.not_false,Bool.and_true,if_true,mL]at hR
     subst hR
     repeat' (first
 | simp only [go_sem,hD,hJ,hP,hY,c1,c2,RE]
 | (with_reducible refine CU (xK _) ?_)
 | (with_reducible refine aJ hQ ?_;simp only [az,aB,Option.some.injEq,exists_eq_left',go_sem,hD,hJ,hP,hY];repeat' (first | exact Ok.out | with_reducible refine aO ?_ ?_ | (simp;done))))
   ·simp only [c1,Bool.false_and,Bool.false_eq_true,if_false]at hR
    repeat' (first
 | simp only [go_sem,hD,hJ,hP,hY,c1]
 | (with_reducible refine CU (xK _) ?_)
 | (with_reducible refine aJ hQ ?_;simp only [az,aB,Option.some.injEq,exists_eq_left',go_sem,hD,hJ,hP,hY];repeat' (first | exact Ok.out | with_reducible refine aO ?_ ?_ | (simp;done))))
    refine dA 3 0 ?_ ?_ (IH (rest,k+1) ⟨g2,hR⟩ (Nat.lt_succ_self _))
    ·(simp only [go_sem,hD,hJ,hP,hY,aH bB];try exact bw)
    ·(simp only [go_sem,hD,hJ,hP,hY,aH bB];try exact bw)
end Go.Abs

/-! Al3 -/

namespace Go.Abs
open Go.Proofs
def Sm.Oy (p:Pg) (v:Sm):Bool:=v.jS p && Ox (p.lF v.proc) v.Tk v.args
def Z3 (p:Pg):List Sm→Option Sm
 | []=>none
 | v::l=>if v.kind==4 && !(v.Oy p)then some v else Z3 p l
end Go.Abs

/-! Prs3 -/

namespace Go.Abs
open Go.Proofs
end Go.Abs

/-! Prs4 -/

namespace Go.Abs
open Go.Proofs
end Go.Abs

/-! Prs5 -/

namespace Go.Abs
open Go.Proofs
end Go.Abs

/-! Prs6 -/

namespace Go.Abs
open Go.Proofs
end Go.Abs

/-! Lex3 -/

namespace Go.Abs
open Go.Proofs
end Go.Abs

/-! MirParse -/

namespace Go.Abs
def RF (l:List lA):Rd:=⟨l,0,0,0,0⟩
def Z4 (m:Nat) (text:aD):Option (Pg×Int×Int):=
 if(ra text).2.1 != 0 then some (FW,(ra text).2)
 else(Rd.program m (RF (ra text).1)).bind fun p=>if p.2.code != 0 then some (FW,p.2.code,p.2.Ai)else(p.1.Lz).bind fun q=>some (q,0,0)
def aay (m:Nat) (text:aD):Option (Ex×Int×Int):=
 if(ra text).2.1 != 0 then some (ml,(ra text).2)
 else(Rd.whole m (RF (ra text).1)).bind fun x=>x.2.F6.bind fun b=>
  if b then(x.2.bad 3).bind fun r=>if !r.good then some (ml,r.code,r.Ai)else some (x.1,0,0)
  else if !x.2.good then some (ml,x.2.code,x.2.Ai)else some (x.1,0,0)
end Go.Abs

/-! Prs7 -/

namespace Go.Abs
open Go.Proofs
end Go.Abs

/-! Room1 -/

namespace Go.Abs
set_option maxRecDepth 8000
open Go.Proofs
def Oz (n k:Int):Int:=if Int.tmod n k<0 then Int.tmod n k+k else Int.tmod n k
def Qw (t:aD):Nat→aD
 | 0=> []
 | n+1=>Qw t n++t
def two (i:Nat):aD:= [UInt8.ofNat (48+i / 10),UInt8.ofNat (48+i % 10)]
def OA (ahead:aD):Nat→aD
 | 0=> []
 | n+1=>(if n=0 then OA ahead n else OA ahead n++ [44])++(ahead++ [97]++two n)
def OB:Nat→aD
 | 0=> []
 | n+1=>OB n++([112,114,111,99,32,112]++two n++ [40,41,123,125])
end Go.Abs

/-! Al4 -/

namespace Go.Abs
set_option maxRecDepth 8000
open Go.Proofs
def OC (k:Int):List It→List Int
 | []=> []
 | i::l=>if k==0 || i.s.kind==k then i.s.id::OC k l else OC k l
def aaz (l:List Int) (n:Int):Int:=match l[(Oz n l.length).toNat]? with | some x=>x | none=>0
def KI (id:Int):List It→Option It
 | []=>none
 | i::l=>if i.s.id==id then some i else KI id l
def KK (id:Int):List Pc→Option (It×aD)
 | []=>none
 | f::l=>match KI id f.flat with | some i=>some (i,f.name) | none=>KK id l
def Z5:It:=⟨BY,0,0,false⟩
def Tl (r:Option (It×aD)):D:=match r with
 | some (i,nm)=> .tuple [.agg (dP i), .str nm, .bool true]
 | none=> .tuple [.agg (dP Z5), .str [], .bool false]
def Pg.aaA (p:Pg) (id:Int):Sm:=match KK id p.procs with | some (i,_)=>i.s | none=>BY
end Go.Abs

/-! Full1 -/

namespace Go.Abs
set_option maxRecDepth 8000
open Go.Proofs
def bF (t:aD) (n:Int):Int:=if n > 20000 then 20001 else if(t.length:Int)≥20000 - n then 20001 else n+1+t.length
mutual
def dg:Ex→Int→Int
 | ⟨_,_,name,kids⟩,n=>jE kids (bF name n)
def jE:List Ex→Int→Int
 | [],n=>n
 | x::l,n=>if n≤20000 then jE l (dg x n)else n
end
theorem iV {t:aD} {n:Int} (h0:0≤n):bF t n≤20001∧(n≤20000→n+1≤bF t n)∧0≤bF t n∧(bF t n≤20000→n+1+t.length=bF t n):=by
 unfold bF;split
 ·omega
 ·split <;> omega
theorem pG : ∀ (m:Nat) (x:Ex),x.size≤m→∀ n:Int,0≤n→dg x n≤20001∧(n≤20000→n+1≤dg x n)∧0≤dg x n∧(dg x n≤20000→(x.size:Int)+1≤2*(dg x n - n)∧x.texts):=by
 intro m
 induction m with
 | zero=>rintro⟨op,v,name,kids⟩ h;simp only [Ex.size]at h;omega
 | succ m ih=>
  rintro⟨op,v,name,kids⟩ h n h0
  simp only [Ex.size]at h
  obtain⟨t1,t2,t3,t4⟩:=iV (t:=name) h0
  have go : ∀ (l:List Ex),Ex.aT l≤m→∀ c:Int,0≤c→c≤20001→jE l c≤20001∧c≤jE l c∧(jE l c≤20000→(Ex.aT l:Int)≤2*(jE l c - c)∧Ex.pz l):=by
   intro l
   induction l with
   | nil=>intro _ c h0 h1;simp only [jE,Ex.aT];exact⟨h1,Int.le_refl _,fun _=>⟨by omega,trivial⟩⟩
   | cons y l Z6=>
    intro hs c h0 h1
    simp only [Ex.aT]at hs ⊢
    simp only [jE]
    split
    ·rename_i hc
     obtain⟨a1,a2,a3,a4⟩:=ih y (by omega) c h0
     obtain⟨b1,b2,b3⟩:=Z6 (by omega) (dg y c) a3 a1
     have:=a2 hc
     refine⟨b1,by omega,fun hw=> ?_⟩
     obtain⟨c1,c2⟩:=b3 hw
     obtain⟨d1,d2⟩:=a4 (by omega)
     exact⟨by omega,d2,c2⟩
    ·exact⟨h1,Int.le_refl _,fun hw=>by omega⟩
  obtain⟨g1,g2,g3⟩:=go kids (by omega) (bF name n) t3 t1
  simp only [dg,Ex.size]
  refine⟨g1,fun hn=>by have:=t2 hn;omega,by omega,fun hw=> ?_⟩
  obtain⟨k1,k2⟩:=g3 hw
  have:=t4 (by omega)
  exact⟨by omega,by omega,k2⟩
theorem lT (t:aD) {n:Int} (h0:0≤n) (h1:n≤20001) (s:St):aI Try.prog eo [.str t, .int .i64 n] s (.int .i64 (bF t n)) s:=by
 refine aI.pure ?_ rfl rfl s
 unfold S0
 have w1:IntKind.wrap .i64 (20000 - n)=20000 - n:=dt (by omega) (by omega)
 have w2:IntKind.wrap .i64 (n+1)=n+1:=dt (by omega) (by omega)
 by_cases c:n > 20000
 ·have c1:decide (n > 20000)=true:=by simp;omega
  have e:bF t n=20001:=by simp [bF,c]
  rw [e]
  refine aI.go kU rfl fun B Q hB hQ=> ?_
  have⟨hD,hJ,hP,hY⟩:=cf
  repeat' (first
 | simp only [go_sem,hD,hJ,hP,hY,c1,w1,w2]
 | (with_reducible first | refine cD fun hc=> ?_ | refine cE fun hc=> ?_ | refine cG (fun hc=> ?_) fun hc=> ?_) <;> (try simp only [hc,bs, ↓reduceIte]at h) <;> try simp only [hc]
 | (with_reducible refine aJ hQ ?_;(try cases h);simp only [az,aB,dv,dw,go_sem,hD,hJ,hP,hY,c1,w1,w2];try exact lz)
 | (cases h;done))
 ·have c1:decide (n > 20000)=false:=by simp;omega
  by_cases d:(t.length:Int)≥20000 - n
  ·have d1:decide ((t.length:Int)≥20000 - n)=true:=by simp;omega
   have e:bF t n=20001:=by unfold bF;rw [if_neg c,if_pos d]
   rw [e]
   refine aI.go kU rfl fun B Q hB hQ=> ?_
   have⟨hD,hJ,hP,hY⟩:=cf
   repeat' (first
 | simp only [go_sem,hD,hJ,hP,hY,c1,d1,w1,w2]
 | (with_reducible first | refine cD fun hc=> ?_ | refine cE fun hc=> ?_ | refine cG (fun hc=> ?_) fun hc=> ?_) <;> (try simp only [hc,bs, ↓reduceIte]at h) <;> try simp only [hc]
 | (with_reducible refine aJ hQ ?_;(try cases h);simp only [az,aB,dv,dw,go_sem,hD,hJ,hP,hY,c1,d1,w1,w2];try exact lz)
 | (cases h;done))
  ·have d1:decide ((t.length:Int)≥20000 - n)=false:=by simp;omega
   have e:bF t n=n+1+t.length:=by unfold bF;rw [if_neg c,if_neg d]
   have w3:IntKind.wrap .i64 (n+1+t.length)=n+1+t.length:=dt (by omega) (by omega)
   rw [e]
   refine aI.go kU rfl fun B Q hB hQ=> ?_
   have⟨hD,hJ,hP,hY⟩:=cf
   repeat' (first
 | simp only [go_sem,hD,hJ,hP,hY,c1,d1,w1,w2,w3]
 | (with_reducible first | refine cD fun hc=> ?_ | refine cE fun hc=> ?_ | refine cG (fun hc=> ?_) fun hc=> ?_) <;> (try simp only [hc,bs, ↓reduceIte]at h) <;> try simp only [hc]
 | (with_reducible refine aJ hQ ?_;(try cases h);simp only [az,aB,dv,dw,go_sem,hD,hJ,hP,hY,c1,d1,w1,w2,w3];try exact lz)
 | (cases h;done))
theorem A5 : ∀ (m:Nat) (x:Ex),x.size≤m→∀ {n:Int},0≤n→n≤20000→∀ s:St,aI Try.prog gi [.agg (bA x), .int .i64 n] s (.int .i64 (dg x n)) s:=by
 intro m
 induction m with
 | zero=>rintro⟨op,v,name,kids⟩ h;simp only [Ex.size]at h;omega
 | succ m ih=>
  rintro⟨op,v,name,kids⟩ dE n h0 h1 s
  refine aI.pure ?_ (by simp [D.bI,D.ok,kl]) rfl s
  simp only [Ex.size]at dE
  have hk : ∀ y∈kids,∀ {n:Int},0≤n→n≤20000→∀ s:St,aI Try.prog gi [.agg (bA y), .int .i64 n] s (.int .i64 (dg y n)) s:=fun y hy=>ih y (by have:=Ex.b6 hy;omega)
  have ht:=fun s=>lT name h0 (by omega) s
  obtain⟨t1,t2,t3,t4⟩:=iV (t:=name) h0
  unfold S0
  generalize h:dg ⟨op,v,name,kids⟩ n=p
  simp only [dg]at h
  refine aI.go tu rfl fun B Q hB hQ=> ?_
  have⟨hD,hJ,hP,hY⟩:=cf
  repeat' (first
 | simp only [go_sem,hD,hJ,hP,hY]
 | (with_reducible refine CU (ht _) ?_)
 | (with_reducible first | refine cD fun hc=> ?_ | refine cE fun hc=> ?_ | refine cG (fun hc=> ?_) fun hc=> ?_) <;> (try simp only [hc,bs, ↓reduceIte]at h) <;> try simp only [hc]
 | (with_reducible refine aJ hQ ?_;exact ju)
 | (cases h;done))
  refine dF 1 0 (bp.ind (ι:=List Ex×Nat×Int) (fun i=>kids.drop i.2.1=i.1∧jE i.1 i.2.2=p∧(i.2.1:Int)≤i.2.2∧i.2.2≤20001) (fun i=>i.1.length)
   (fun i=> [(1, .int .i64 i.2.2),(2, .ptr 0 0),(5, .int .i64 (i.2.1:Int))]) (fun i=>⟨[bA ⟨op,v,name,kids⟩],[]⟩) ?_ (kids,0,bF name n) ⟨rfl,h,t3,t1⟩)
  rintro⟨rest,k,c⟩ ⟨g1,h,g3,g4⟩ IH
  dsimp only at g1 h g3 g4
  cases rest with
  | nil=>
   have hD:=drop_nil g1
   simp only [jE]at h
   repeat' (first
 | simp only [go_sem,hD,hJ,hP,hY]
 | (with_reducible first | refine cD fun hc=> ?_ | refine cE fun hc=> ?_ | refine cG (fun hc=> ?_) fun hc=> ?_) <;> (try simp only [hc,bs, ↓reduceIte]at h) <;> try simp only [hc]
 | (with_reducible refine aJ hQ ?_;exact ju)
 | (cases h;done))
  | cons y rest=>
   obtain⟨hJ,g2,hD,g5⟩:=drop_cons g1
   simp only [jE]at h
   by_cases hc:c≤20000
   ·have c1:decide (c≤20000)=true:=by simp;omega
    have hy:=fun s=>hk y (List.mem_of_getElem? hJ) (n:=c) (by omega) hc s
    obtain⟨a1,a2,a3,a4⟩:=pG _ y (Nat.le_refl _) c (by omega)
    have:=a2 hc
    have w3:IntKind.wrap .i64 ((k:Int)+1)=((k+1:Nat):Int):=by rw [dt] <;> omega
    rw [if_pos hc]at h
    repeat' (first
 | simp only [go_sem,hD,hJ,hP,hY,c1,w3]
 | (with_reducible refine CU (hy _) ?_)
 | (with_reducible first | refine cD fun hc=> ?_ | refine cE fun hc=> ?_ | refine cG (fun hc=> ?_) fun hc=> ?_) <;> (try simp only [hc,bs, ↓reduceIte]at h) <;> try simp only [hc]
 | (with_reducible refine aJ hQ ?_;(try cases h);simp only [az,aB,dv,dw,go_sem,hD,hJ,hP,hY,c1,w3];try exact lz)
 | (cases h;done))
    refine dF 1 0 (IH (rest,k+1,dg y c) ⟨g2,h,by dsimp only;omega,a1⟩ (Nat.lt_succ_self _))
   ·have c1:decide (c≤20000)=false:=by simp;omega
    rw [if_neg hc]at h
    repeat' (first
 | simp only [go_sem,hD,hJ,hP,hY,c1]
 | (with_reducible first | refine cD fun hc=> ?_ | refine cE fun hc=> ?_ | refine cG (fun hc=> ?_) fun hc=> ?_) <;> (try simp only [hc,bs, ↓reduceIte]at h) <;> try simp only [hc]
 | (with_reducible refine aJ hQ ?_;(try cases h);simp only [az,aB,dv,dw,go_sem,hD,hJ,hP,hY,c1];try exact lz)
 | (cases h;done))
end Go.Abs

/-! Fits1 -/

namespace Go.Abs
set_option maxRecDepth 8000
open Go.Proofs
def cj:List aD→Int→Int
 | [],n=>n
 | t::l,n=>if n≤20000 then cj l (bF t n)else n
def fp:List Ar→Int→Int
 | [],n=>n
 | a::l,n=>if n≤20000 then fp l (bF a.name (dg a.x n))else n
def gy:List Pm→Int→Int
 | [],n=>n
 | a::l,n=>if n≤20000 then gy l (bF a.name n)else n
mutual
def mM:Sm→Int→Int
 | ⟨_,_,labels,name,proc,x,_,args,aZ,aQ⟩,n=>dG aQ (dG aZ (fp args (bF proc (bF name (cj labels (dg x n))))))
def dG:List Sm→Int→Int
 | [],n=>n
 | s::l,n=>if n≤20000 then dG l (mM s n)else n
end
theorem G2 (s:Sm) (n:Int):mM s n=dG s.aQ (dG s.aZ (fp s.args (bF s.proc (bF s.name (cj s.labels (dg s.x n)))))):=by cases s;simp only [mM]
def n7 (f:Pc) (n:Int):Int:=dG f.body (gy f.params (cj f.fin (cj f.vars (bF f.name n))))
def jF:List Pc→Int→Int
 | [],n=>n
 | f::l,n=>if n≤20000 then jF l (n7 f n)else n
def Pg.uj (p:Pg):Int:=jF p.procs (cj p.globals 0)
theorem gP : ∀ (l:List aD) {n:Int},0≤n→n≤20001→cj l n≤20001∧n≤cj l n∧(cj l n≤20000→n+l.length≤cj l n∧∀ t∈l,t.length<4611686018427387904)
 | [],n,h0,h1=>by simp only [cj];exact⟨h1,Int.le_refl _,fun _=>⟨by simp,by simp⟩⟩
 | t::l,n,h0,h1=>by
  simp only [cj]
  split
  ·rename_i hc
   obtain⟨a1,a2,a3,a4⟩:=iV (t:=t) h0
   obtain⟨b1,b2,b3⟩:=gP l (n:=bF t n) a3 a1
   have:=a2 hc
   refine⟨b1,by omega,fun hw=> ?_⟩
   obtain⟨c1,c2⟩:=b3 hw
   have:=a4 (by omega)
   refine⟨by simp only [List.length_cons];omega,fun s m=> ?_⟩
   rcases List.mem_cons.1 m with rfl | m
   ·omega
   ·exact c2 s m
  ·exact⟨h1,Int.le_refl _,fun hw=>by omega⟩
theorem sa : ∀ (l:List Pm) {n:Int},0≤n→n≤20001→gy l n≤20001∧n≤gy l n∧(gy l n≤20000→n+l.length≤gy l n∧∀ t∈l,t.name.length<4611686018427387904)
 | [],n,h0,h1=>by simp only [gy];exact⟨h1,Int.le_refl _,fun _=>⟨by simp,by simp⟩⟩
 | t::l,n,h0,h1=>by
  simp only [gy]
  split
  ·rename_i hc
   obtain⟨a1,a2,a3,a4⟩:=iV (t:=t.name) h0
   obtain⟨b1,b2,b3⟩:=sa l (n:=bF t.name n) a3 a1
   have:=a2 hc
   refine⟨b1,by omega,fun hw=> ?_⟩
   obtain⟨c1,c2⟩:=b3 hw
   have:=a4 (by omega)
   refine⟨by simp only [List.length_cons];omega,fun s m=> ?_⟩
   rcases List.mem_cons.1 m with rfl | m
   ·omega
   ·exact c2 s m
  ·exact⟨h1,Int.le_refl _,fun hw=>by omega⟩
theorem sb : ∀ (l:List Ar) {n:Int},0≤n→n≤20001→fp l n≤20001∧n≤fp l n∧
 (fp l n≤20000→(Ar.aT l:Int)≤2*(fp l n - n)∧∀ a∈l,a.x.size<4611686018427387904∧a.x.texts∧a.name.length<4611686018427387904)
 | [],n,h0,h1=>by simp only [fp];exact⟨h1,Int.le_refl _,fun _=>⟨by simp [Ar.aT],by simp⟩⟩
 | a::l,n,h0,h1=>by
  simp only [fp]
  split
  ·rename_i hc
   obtain⟨a1,a2,a3,a4⟩:=pG _ a.x (Nat.le_refl _) n h0
   obtain⟨e1,e2,e3,e4⟩:=iV (t:=a.name) a3
   obtain⟨b1,b2,b3⟩:=sb l (n:=bF a.name (dg a.x n)) e3 e1
   have:=a2 hc
   have:dg a.x n≤bF a.name (dg a.x n):=by
    by_cases h:dg a.x n≤20000
    ·have:=e2 h;omega
    ·have:bF a.name (dg a.x n)=20001:=by unfold bF;rw [if_pos (by omega)]
     omega
   refine⟨b1,by omega,fun hw=> ?_⟩
   obtain⟨c1,c2⟩:=b3 hw
   have:=e4 (by omega)
   obtain⟨d1,d2⟩:=a4 (by omega)
   refine⟨by simp only [Ar.aT];omega,fun s m=> ?_⟩
   rcases List.mem_cons.1 m with rfl | m
   ·exact⟨by omega,d2,by omega⟩
   ·exact c2 s m
  ·exact⟨h1,Int.le_refl _,fun hw=>by omega⟩
theorem gV {t:aD} {n:Int} (h0:0≤n) (h1:n≤20001):n≤bF t n∧bF t n≤20001∧(bF t n≤20000→n+1≤bF t n∧t.length<4611686018427387904):=by
 obtain⟨e1,e2,e3,e4⟩:=iV (t:=t) h0
 by_cases h:n≤20000
 ·have:=e2 h
  exact⟨by omega,e1,fun hw=>⟨by omega,by have:=e4 hw;omega⟩⟩
 ·have:bF t n=20001:=by unfold bF;rw [if_pos (by omega)]
  exact⟨by omega,e1,fun hw=>by omega⟩
mutual
theorem yy : ∀ (s:Sm) {n:Int},0≤n→n≤20000→mM s n≤20001∧n+1≤mM s n∧(mM s n≤20000→(s.size:Int)+1≤2*(mM s n - n)∧s.qe)
 | ⟨id,kind,labels,name,proc,x,has,args,aZ,aQ⟩,n,h0,h1=>by
  obtain⟨a1,a2,a3,a4⟩:=pG _ x (Nat.le_refl _) n h0
  have a2:=a2 h1
  obtain⟨b1,b2,b3⟩:=gP labels a3 a1
  obtain⟨c1,c2,c3⟩:=gV (t:=name) (n:=cj labels (dg x n)) (by omega) b1
  obtain⟨d1,d2,d3⟩:=gV (t:=proc) (n:=bF name (cj labels (dg x n))) (by omega) c2
  obtain⟨e1,e2,e3⟩:=sb args (n:=bF proc (bF name (cj labels (dg x n)))) (by omega) d2
  obtain⟨f1,f2,f3⟩:=mN aZ (n:=fp args (bF proc (bF name (cj labels (dg x n))))) (by omega) e1
  obtain⟨g1,g2,g3⟩:=mN aQ (n:=dG aZ (fp args (bF proc (bF name (cj labels (dg x n)))))) (by omega) f1
  simp only [mM,Sm.size]
  refine⟨g1,by omega,fun hw=> ?_⟩
  obtain⟨g4,g5⟩:=g3 hw
  obtain⟨f4,f5⟩:=f3 (by omega)
  obtain⟨e4,e5⟩:=e3 (by omega)
  obtain⟨d4,d5⟩:=d3 (by omega)
  obtain⟨c4,c5⟩:=c3 (by omega)
  obtain⟨b4,b5⟩:=b3 (by omega)
  obtain⟨a5,a6⟩:=a4 (by omega)
  have:=Ar.cP args
  refine⟨by omega, ?_⟩
  rw [vk]
  exact⟨⟨b5,by dsimp only;omega,c5,d5,by dsimp only;omega,a6,by dsimp only;omega,e5⟩,f5,g5⟩
theorem mN : ∀ (l:List Sm) {n:Int},0≤n→n≤20001→dG l n≤20001∧n≤dG l n∧(dG l n≤20000→(Sm.aT l:Int)≤2*(dG l n - n)∧Sm.gx l)
 | [],n,h0,h1=>by simp only [dG];exact⟨h1,Int.le_refl _,fun _=>⟨by simp [Sm.aT],by simp only [Sm.gx]⟩⟩
 | s::l,n,h0,h1=>by
  simp only [dG]
  split
  ·rename_i hc
   obtain⟨a1,a2,a3⟩:=yy s h0 hc
   obtain⟨b1,b2,b3⟩:=mN l (n:=mM s n) (by omega) a1
   refine⟨b1,by omega,fun hw=> ?_⟩
   obtain⟨c1,c2⟩:=b3 hw
   obtain⟨d1,d2⟩:=a3 (by omega)
   exact⟨by simp only [Sm.aT];omega,d2,c2⟩
  ·exact⟨h1,Int.le_refl _,fun hw=>by omega⟩
end
theorem yz (f:Pc) {n:Int} (h0:0≤n) (h1:n≤20000):n7 f n≤20001∧n+1≤n7 f n∧(n7 f n≤20000→(f.size:Int)+1≤2*(n7 f n - n)∧
 (f.name.length<4611686018427387904∧(∀ t∈f.vars,t.length<4611686018427387904)∧(∀ t∈f.fin,t.length<4611686018427387904)∧∀ a∈f.params,a.name.length<4611686018427387904)∧Sm.gx f.body):=by
 obtain⟨c1,c2,c3⟩:=gV (t:=f.name) h0 (by omega:n≤20001)
 have c4:=(iV (t:=f.name) h0).2.1 h1
 obtain⟨d1,d2,d3⟩:=gP f.vars (n:=bF f.name n) (by omega) c2
 obtain⟨e1,e2,e3⟩:=gP f.fin (n:=cj f.vars (bF f.name n)) (by omega) d1
 obtain⟨g1,g2,g3⟩:=sa f.params (n:=cj f.fin (cj f.vars (bF f.name n))) (by omega) e1
 obtain⟨k1,k2,k3⟩:=mN f.body (n:=gy f.params (cj f.fin (cj f.vars (bF f.name n)))) (by omega) g1
 unfold n7 Pc.size
 refine⟨k1,by omega,fun hw=> ?_⟩
 obtain⟨k4,k5⟩:=k3 hw
 obtain⟨g4,g5⟩:=g3 (by omega)
 obtain⟨e4,e5⟩:=e3 (by omega)
 obtain⟨d4,d5⟩:=d3 (by omega)
 obtain⟨_,c5⟩:=c3 (by omega)
 exact⟨by omega,⟨c5,d5,e5,g5⟩,k5⟩
theorem wK : ∀ (l:List Pc) {n:Int},0≤n→n≤20001→jF l n≤20001∧n≤jF l n∧(jF l n≤20000→(Pc.aT l:Int)≤2*(jF l n - n)∧∀ f∈l,
 (f.name.length<4611686018427387904∧(∀ t∈f.vars,t.length<4611686018427387904)∧(∀ t∈f.fin,t.length<4611686018427387904)∧∀ a∈f.params,a.name.length<4611686018427387904)∧Sm.gx f.body)
 | [],n,h0,h1=>by simp only [jF];exact⟨h1,Int.le_refl _,fun _=>⟨by simp [Pc.aT],by simp⟩⟩
 | f::l,n,h0,h1=>by
  simp only [jF]
  split
  ·rename_i hc
   obtain⟨a1,a2,a3⟩:=yz f h0 hc
   obtain⟨b1,b2,b3⟩:=wK l (n:=n7 f n) (by omega) a1
   refine⟨b1,by omega,fun hw=> ?_⟩
   obtain⟨c1,c2⟩:=b3 hw
   obtain⟨d1,d2⟩:=a3 (by omega)
   refine⟨by simp only [Pc.aT];omega,fun s m=> ?_⟩
   rcases List.mem_cons.1 m with rfl | m
   ·exact d2
   ·exact c2 s m
  ·exact⟨h1,Int.le_refl _,fun hw=>by omega⟩
theorem Ez {p:Pg} (h:p.uj≤20000):p.size≤40001∧p.zh:=by
 unfold Pg.uj at h
 obtain⟨a1,a2,a3⟩:=gP p.globals (n:=0) (by omega) (by omega)
 obtain⟨b1,b2,b3⟩:=wK p.procs (n:=cj p.globals 0) (by omega) a1
 obtain⟨c1,c2⟩:=b3 h
 obtain⟨d1,d2⟩:=a3 (by omega)
 have:p.size≤40001:=by unfold Pg.size;omega
 exact⟨this,by omega,d2,fun f m=>(c2 f m).1,fun f m=>(c2 f m).2⟩
theorem qo {l:List aD} {n:Int} (h0:0≤n) (h1:n≤20001) (s:St):aI Try.prog fR [.slice .shared 1 (l.map encStr), .int .i64 n] s (.int .i64 (cj l n)) s:=by
 refine aI.pure ?_ (by simp [D.bI,D.ok,fi,Tag.ok]) rfl s
 unfold S0
 generalize h:cj l n=p
 refine aI.go sE rfl fun B Q hB hQ=> ?_
 have⟨hD,hJ,hP,hY⟩:=cf
 repeat' (first
 | simp only [go_sem,hD,hJ,hP,hY]
 | (with_reducible refine aJ hQ ?_;simp only [az,aB,Option.some.injEq,exists_eq_left',go_sem,hD,hJ,hP,hY];repeat' (first | exact Ok.out | with_reducible refine aO ?_ ?_ | (simp;done))))
 refine dF 0 0 (bp.ind (ι:=List aD×Nat×Int) (fun i=>l.drop i.2.1=i.1∧cj i.1 i.2.2=p∧(i.2.1:Int)≤i.2.2∧i.2.2≤20001) (fun i=>i.1.length)
  (fun i=> [(0, .slice .shared 1 (l.map encStr)),(1, .int .i64 i.2.2),(5, .int .i64 (i.2.1:Int))]) (fun i=>⟨[],[]⟩) ?_ (l,0,n) ⟨rfl,h,h0,h1⟩)
 rintro⟨rest,k,c⟩ ⟨g1,h,g3,g4⟩ IH
 dsimp only at g1 h g3 g4
 cases rest with
 | nil=>
  have hD:=drop_nil g1
  simp only [cj]at h
  subst h
  repeat' (first
 | simp only [go_sem,hD,hJ,hP,hY]
 | (with_reducible refine aJ hQ ?_;simp only [az,aB,Option.some.injEq,exists_eq_left',go_sem,hD,hJ,hP,hY];repeat' (first | exact Ok.out | with_reducible refine aO ?_ ?_ | (simp;done))))
 | cons y rest=>
  obtain⟨hJ,g2,hD,g5⟩:=drop_cons g1
  simp only [cj]at h
  by_cases hc:c≤20000
  ·have c1:decide (c≤20000)=true:=by simp;omega
   have hy:=fun s=>lT y (n:=c) (by omega) g4 s
   obtain⟨a1,a2,a3,a4⟩:=iV (t:=y) (n:=c) (by omega)
   have:=a2 hc
   have w3:IntKind.wrap .i64 ((k:Int)+1)=((k+1:Nat):Int):=by rw [dt] <;> omega
   rw [if_pos hc]at h
   repeat' (first
 | simp only [go_sem,hD,hJ,hP,hY,c1,w3]
 | (with_reducible refine CU (hy _) ?_)
 | (with_reducible refine aJ hQ ?_;simp only [az,aB,Option.some.injEq,exists_eq_left',go_sem,hD,hJ,hP,hY];repeat' (first | exact Ok.out | with_reducible refine aO ?_ ?_ | (simp;done))))
   refine dF 0 0 (IH (rest,k+1,bF y c) ⟨g2,h,by dsimp only;omega,a1⟩ (Nat.lt_succ_self _))
  ·have c1:decide (c≤20000)=false:=by simp;omega
   rw [if_neg hc]at h
   subst h
   repeat' (first
 | simp only [go_sem,hD,hJ,hP,hY,c1]
 | (with_reducible refine aJ hQ ?_;simp only [az,aB,Option.some.injEq,exists_eq_left',go_sem,hD,hJ,hP,hY];repeat' (first | exact Ok.out | with_reducible refine aO ?_ ?_ | (simp;done))))
theorem G3 : ∀ (m:Nat) (l:List Sm),Sm.aT l≤m→∀ {n:Int},0≤n→n≤20001→∀ s:St,aI Try.prog gI [.slice .shared 13 (l.map bf), .int .i64 n] s (.int .i64 (dG l n)) s:=by
 intro m
 induction m with
 | zero=>
  intro l h n h0 h1 s
  cases l with
  | nil=>
   have z:decide ((0:Int)<0)=false:=rfl
   refine aI.pure ?_ (by simp [D.bI,D.ok,D.gG,Tag.ok]) rfl s
   unfold S0
   simp only [dG]
   refine aI.go mW rfl fun B Q hB hQ=> ?_
   have⟨hD,hJ,hP,hY⟩:=cf
   repeat' (first
 | simp only [go_sem,hD,hJ,hP,hY,z]
 | (with_reducible refine bp.yY ?_)
 | (with_reducible refine aJ hQ ?_;simp only [az,aB,Option.some.injEq,exists_eq_left',go_sem,hD,hJ,hP,hY];repeat' (first | exact Ok.out | with_reducible refine aO ?_ ?_ | (simp;done))))
  | cons s l=>simp only [Sm.aT]at h;omega
 | succ m ih=>
  intro l h n h0 h1 s
  refine aI.pure ?_ (by simp [D.bI,D.ok,oT,Tag.ok]) rfl s
  unfold S0
  generalize hp:dG l n=p
  refine aI.go mW rfl fun B Q hB hQ=> ?_
  have⟨hD,hJ,hP,hY⟩:=cf
  repeat' (first
 | simp only [go_sem,hD,hJ,hP,hY]
 | (with_reducible refine aJ hQ ?_;simp only [az,aB,Option.some.injEq,exists_eq_left',go_sem,hD,hJ,hP,hY];repeat' (first | exact Ok.out | with_reducible refine aO ?_ ?_ | (simp;done))))
  refine dF 0 0 (bp.ind (ι:=List Sm×Nat×Int) (fun i=>l.drop i.2.1=i.1∧dG i.1 i.2.2=p∧(i.2.1:Int)≤i.2.2∧i.2.2≤20001) (fun i=>i.1.length)
   (fun i=> [(0, .slice .shared 13 (l.map bf)),(1, .int .i64 i.2.2),(5, .int .i64 (i.2.1:Int))]) (fun i=>⟨[],[]⟩) ?_ (l,0,n) ⟨rfl,hp,h0,h1⟩)
  rintro⟨rest,k,c⟩ ⟨g1,hp,g3,g4⟩ IH
  dsimp only at g1 hp g3 g4
  cases rest with
  | nil=>
   have hD:=drop_nil g1
   simp only [dG]at hp
   subst hp
   repeat' (first
 | simp only [go_sem,hD,hJ,hP,hY]
 | (with_reducible refine aJ hQ ?_;simp only [az,aB,Option.some.injEq,exists_eq_left',go_sem,hD,hJ,hP,hY];repeat' (first | exact Ok.out | with_reducible refine aO ?_ ?_ | (simp;done))))
  | cons y rest=>
   obtain⟨hJ,g2,hD,g5⟩:=drop_cons g1
   simp only [dG]at hp
   by_cases hc:c≤20000
   ·have c1:decide (c≤20000)=true:=by simp;omega
    have kj:=List.mem_of_getElem? hJ
    have dE:=Sm.b6 kj
    have S3:s.au.length≤s.au.length∧Sm.aT y.aZ<y.size∧Sm.aT y.aQ<y.size:=by cases y;simp only [Sm.size];omega
    have w3:IntKind.wrap .i64 ((k:Int)+1)=((k+1:Nat):Int):=by rw [dt] <;> omega
    rw [if_pos hc]at hp
    obtain⟨a1,a2,a3,a4⟩:=pG _ y.x (Nat.le_refl _) c (by omega)
    have a2:=a2 hc
    obtain⟨b1,b2,b3⟩:=gP y.labels a3 a1
    obtain⟨Z7,c2,c3⟩:=gV (t:=y.name) (n:=cj y.labels (dg y.x c)) (by omega) b1
    obtain⟨d1,d2,d3⟩:=gV (t:=y.proc) (n:=bF y.name (cj y.labels (dg y.x c))) (by omega) c2
    have eE:=fun s=>A5 _ y.x (Nat.le_refl _) (n:=c) (by omega) hc s
    have eL:=fun s=>qo (l:=y.labels) (n:=dg y.x c) (by omega) a1 s
    have eN:=fun s=>lT y.name (n:=cj y.labels (dg y.x c)) (by omega) b1 s
    have eP:=fun s=>lT y.proc (n:=bF y.name (cj y.labels (dg y.x c))) (by omega) c2 s
    obtain⟨r1,r2,r3⟩:=yy y (n:=c) (by omega) hc
    rw [G2]at hp r1 r2
    generalize hC:bF y.proc (bF y.name (cj y.labels (dg y.x c)))=C at *
    obtain⟨s1,s2,s3⟩:=sb y.args (n:=C) (by omega) d2
    obtain⟨t1,t2,t3⟩:=mN y.aZ (n:=fp y.args C) (by omega) s1
    have eT:=fun s=>ih y.aZ (by omega) (n:=fp y.args C) (by omega) s1 s
    have eS:=fun s=>ih y.aQ (by omega) (n:=dG y.aZ (fp y.args C)) (by omega) t1 s
    generalize hW:fp y.args C=W at *
    repeat' (first
 | simp only [go_sem,hD,hJ,hP,hY,c1,w3]
 | (with_reducible refine CU (eE _) ?_)
 | (with_reducible refine CU (eL _) ?_)
 | (with_reducible refine CU (eN _) ?_)
 | (with_reducible refine CU (eP _) ?_)
 | (with_reducible refine aJ hQ ?_;simp only [az,aB,Option.some.injEq,exists_eq_left',go_sem,hD,hJ,hP,hY];repeat' (first | exact Ok.out | with_reducible refine aO ?_ ?_ | (simp;done))))
    refine dF 1 0 (bp.ind (ι:=List Ar×Nat×Int) (fun i=>y.args.drop i.2.1=i.1∧fp i.1 i.2.2=W∧(i.2.1:Int)≤i.2.2∧i.2.2≤20001) (fun i=>i.1.length)
     (fun i=> [(0, .slice .shared 13 (l.map bf)),(1, .int .i64 i.2.2),(5, .int .i64 (k:Int)),(6, .ptr 0 0),(7, .int .i64 (i.2.1:Int))]) (fun i=>⟨[bf y],[]⟩) ?_ (y.args,0,C) ⟨rfl,hW,by dsimp only;omega,d2⟩)
    rintro⟨OE,j,e⟩ ⟨k1,hw,k3,k4⟩ wu
    dsimp only at k1 hw k3 k4
    cases OE with
    | nil=>
     have hD:=drop_nil k1
     simp only [fp]at hw
     subst hw
     repeat' (first
 | simp only [go_sem,hD,hJ,hP,hY,w3]
 | (with_reducible refine CU (eT _) ?_)
 | (with_reducible refine CU (eS _) ?_)
 | (with_reducible refine aJ hQ ?_;simp only [az,aB,Option.some.injEq,exists_eq_left',go_sem,hD,hJ,hP,hY];repeat' (first | exact Ok.out | with_reducible refine aO ?_ ?_ | (simp;done))))
     refine dF 0 0 (IH (rest,k+1,dG y.aQ (dG y.aZ e)) ⟨g2,hp,by dsimp only;omega,r1⟩ (Nat.lt_succ_self _))
    | cons a OE=>
     obtain⟨hJ,k2,hD,k5⟩:=drop_cons k1
     simp only [fp]at hw
     by_cases he:e≤20000
     ·have e1:decide (e≤20000)=true:=by simp;omega
      have w4:IntKind.wrap .i64 ((j:Int)+1)=((j+1:Nat):Int):=by rw [dt] <;> omega
      rw [if_pos he]at hw
      obtain⟨u1,u2,u3,u4⟩:=pG _ a.x (Nat.le_refl _) e (by omega)
      have u2:=u2 he
      obtain⟨v1,v2,v3⟩:=gV (t:=a.name) (n:=dg a.x e) u3 u1
      have eX:=fun s=>A5 _ a.x (Nat.le_refl _) (n:=e) (by omega) he s
      have eM:=fun s=>lT a.name (n:=dg a.x e) u3 u1 s
      repeat' (first
 | simp only [go_sem,hD,hJ,hP,hY,e1,w4]
 | (with_reducible refine CU (eX _) ?_)
 | (with_reducible refine CU (eM _) ?_)
 | (with_reducible refine aJ hQ ?_;simp only [az,aB,Option.some.injEq,exists_eq_left',go_sem,hD,hJ,hP,hY];repeat' (first | exact Ok.out | with_reducible refine aO ?_ ?_ | (simp;done))))
      refine dF 1 0 (wu (OE,j+1,bF a.name (dg a.x e)) ⟨k2,hw,by dsimp only;omega,v2⟩ (Nat.lt_succ_self _))
     ·have e1:decide (e≤20000)=false:=by simp;omega
      rw [if_neg he]at hw
      subst hw
      repeat' (first
 | simp only [go_sem,hD,hJ,hP,hY,e1,w3]
 | (with_reducible refine CU (eT _) ?_)
 | (with_reducible refine CU (eS _) ?_)
 | (with_reducible refine aJ hQ ?_;simp only [az,aB,Option.some.injEq,exists_eq_left',go_sem,hD,hJ,hP,hY];repeat' (first | exact Ok.out | with_reducible refine aO ?_ ?_ | (simp;done))))
      refine dF 0 0 (IH (rest,k+1,dG y.aQ (dG y.aZ e)) ⟨g2,hp,by dsimp only;omega,r1⟩ (Nat.lt_succ_self _))
   ·have c1:decide (c≤20000)=false:=by simp;omega
    rw [if_neg hc]at hp
    subst hp
    repeat' (first
 | simp only [go_sem,hD,hJ,hP,hY,c1]
 | (with_reducible refine aJ hQ ?_;simp only [az,aB,Option.some.injEq,exists_eq_left',go_sem,hD,hJ,hP,hY];repeat' (first | exact Ok.out | with_reducible refine aO ?_ ?_ | (simp;done))))
end Go.Abs

/-! Fits2 -/

namespace Go.Abs
set_option maxRecDepth 8000
open Go.Proofs
theorem OF (p:Pg) (s:St):aI Try.prog qC [.agg (bS p)] s (.bool (decide (p.uj≤20000))) s:=by
 refine aI.pure ?_ (by simp only [D.bI,D.ok,km];rfl) rfl s
 unfold S0
 generalize hp:p.uj=W
 unfold Pg.uj at hp
 obtain⟨a1,a2,a3⟩:=gP p.globals (n:=0) (by omega) (by omega)
 have eG:=fun s=>qo (l:=p.globals) (n:=0) (by omega) (by omega) s
 refine aI.go yF rfl fun B Q hB hQ=> ?_
 have⟨hD,hJ,hP,hY⟩:=cf
 repeat' (first
 | simp only [go_sem,hD,hJ,hP,hY]
 | (with_reducible refine CU (eG _) ?_)
 | (with_reducible refine aJ hQ ?_;simp only [az,aB,dv,dw,go_sem,hD,hJ,hP,hY];repeat' (first | exact Ok.out | with_reducible refine aO ?_ ?_ | (simp;done))))
 refine dF 1 0 (bp.ind (ι:=List Pc×Nat×Int) (fun i=>p.procs.drop i.2.1=i.1∧jF i.1 i.2.2=W∧(i.2.1:Int)≤i.2.2∧i.2.2≤20001) (fun i=>i.1.length)
  (fun i=> [(1, .ptr 0 0),(3, .int .i64 i.2.2),(4, .int .i64 (i.2.1:Int))]) (fun i=>⟨[bS p],[]⟩) ?_ (p.procs,0,cj p.globals 0) ⟨rfl,hp,a2,a1⟩)
 rintro⟨rest,k,c⟩ ⟨g1,hp,g3,g4⟩ IH
 dsimp only at g1 hp g3 g4
 cases rest with
 | nil=>
  have hD:=drop_nil g1
  simp only [jF]at hp
  subst hp
  repeat' (first
 | simp only [go_sem,hD,hJ,hP,hY]
 | (with_reducible refine aJ hQ ?_;simp only [az,aB,dv,dw,go_sem,hD,hJ,hP,hY];repeat' (first | exact Ok.out | with_reducible refine aO ?_ ?_ | (simp;done))))
 | cons f rest=>
  obtain⟨hJ,g2,hD,g5⟩:=drop_cons g1
  simp only [jF]at hp
  by_cases hc:c≤20000
  ·have c1:decide (c≤20000)=true:=by simp;omega
   have w3:IntKind.wrap .i64 ((k:Int)+1)=((k+1:Nat):Int):=by rw [dt] <;> omega
   rw [if_pos hc]at hp
   obtain⟨r1,r2,r3⟩:=yz f (n:=c) (by omega) hc
   unfold n7 at hp r1 r2
   obtain⟨Z7,c2,c3⟩:=gV (t:=f.name) (n:=c) (by omega) g4
   obtain⟨d1,d2,d3⟩:=gP f.vars (n:=bF f.name c) (by omega) c2
   obtain⟨e1,e2,e3⟩:=gP f.fin (n:=cj f.vars (bF f.name c)) (by omega) d1
   have eN:=fun s=>lT f.name (n:=c) (by omega) g4 s
   have eV:=fun s=>qo (l:=f.vars) (n:=bF f.name c) (by omega) c2 s
   have eF:=fun s=>qo (l:=f.fin) (n:=cj f.vars (bF f.name c)) (by omega) d1 s
   generalize hC:cj f.fin (cj f.vars (bF f.name c))=C at *
   obtain⟨s1,s2,s3⟩:=sa f.params (n:=C) (by omega) e1
   have eT:=fun s=>G3 _ f.body (Nat.le_refl _) (n:=gy f.params C) (by omega) s1 s
   generalize hM:gy f.params C=M at *
   repeat' (first
 | simp only [go_sem,hD,hJ,hP,hY,c1,w3]
 | (with_reducible refine CU (eN _) ?_)
 | (with_reducible refine CU (eV _) ?_)
 | (with_reducible refine CU (eF _) ?_)
 | (with_reducible refine aJ hQ ?_;simp only [az,aB,dv,dw,go_sem,hD,hJ,hP,hY];repeat' (first | exact Ok.out | with_reducible refine aO ?_ ?_ | (simp;done))))
   refine dF 2 0 (bp.ind (ι:=List Pm×Nat×Int) (fun i=>f.params.drop i.2.1=i.1∧gy i.1 i.2.2=M∧(i.2.1:Int)≤i.2.2∧i.2.2≤20001) (fun i=>i.1.length)
    (fun i=> [(1, .ptr 0 0),(3, .int .i64 i.2.2),(4, .int .i64 (k:Int)),(5, .ptr 1 0),(6, .int .i64 (i.2.1:Int))]) (fun i=>⟨[bS p,bL f],[]⟩) ?_ (f.params,0,C) ⟨rfl,hM,by dsimp only;omega,e1⟩)
   rintro⟨ms,j,e⟩ ⟨k1,hw,k3,k4⟩ wu
   dsimp only at k1 hw k3 k4
   cases ms with
   | nil=>
    have hD:=drop_nil k1
    simp only [gy]at hw
    subst hw
    repeat' (first
 | simp only [go_sem,hD,hJ,hP,hY,w3]
 | (with_reducible refine CU (eT _) ?_)
 | (with_reducible refine aJ hQ ?_;simp only [az,aB,dv,dw,go_sem,hD,hJ,hP,hY];repeat' (first | exact Ok.out | with_reducible refine aO ?_ ?_ | (simp;done))))
    refine dF 1 0 (IH (rest,k+1,dG f.body e) ⟨g2,hp,by dsimp only;omega,r1⟩ (Nat.lt_succ_self _))
   | cons a ms=>
    obtain⟨hJ,k2,hD,k5⟩:=drop_cons k1
    simp only [gy]at hw
    by_cases he:e≤20000
    ·have e1:decide (e≤20000)=true:=by simp;omega
     have w4:IntKind.wrap .i64 ((j:Int)+1)=((j+1:Nat):Int):=by rw [dt] <;> omega
     rw [if_pos he]at hw
     obtain⟨v1,v2,v3⟩:=gV (t:=a.name) (n:=e) (by omega) k4
     have v4:=(iV (t:=a.name) (n:=e) (by omega)).2.1 he
     have eM:=fun s=>lT a.name (n:=e) (by omega) k4 s
     repeat' (first
 | simp only [go_sem,hD,hJ,hP,hY,e1,w4]
 | (with_reducible refine CU (eM _) ?_)
 | (with_reducible refine aJ hQ ?_;simp only [az,aB,dv,dw,go_sem,hD,hJ,hP,hY];repeat' (first | exact Ok.out | with_reducible refine aO ?_ ?_ | (simp;done))))
     refine dF 2 0 (wu (ms,j+1,bF a.name e) ⟨k2,hw,by dsimp only;omega,v2⟩ (Nat.lt_succ_self _))
    ·have e1:decide (e≤20000)=false:=by simp;omega
     rw [if_neg he]at hw
     subst hw
     repeat' (first
 | simp only [go_sem,hD,hJ,hP,hY,e1,w3]
 | (with_reducible refine CU (eT _) ?_)
 | (with_reducible first | refine cD fun hc=> ?_ | refine cE fun hc=> ?_ | refine cG (fun hc=> ?_) fun hc=> ?_) <;> (try simp only [hc,bs, ↓reduceIte]at h) <;> try simp only [hc]
 | (with_reducible refine aJ hQ ?_;simp only [az,aB,dv,dw,go_sem,hD,hJ,hP,hY,e1,w3];repeat' (first | exact Ok.out | with_reducible refine aO ?_ ?_ | (simp;done))))
     refine dF 1 0 (IH (rest,k+1,dG f.body e) ⟨g2,hp,by dsimp only;omega,r1⟩ (Nat.lt_succ_self _))
  ·have c1:decide (c≤20000)=false:=by simp;omega
   rw [if_neg hc]at hp
   subst hp
   repeat' (first
 | simp only [go_sem,hD,hJ,hP,hY,c1]
 | (with_reducible first | refine cD fun hc=> ?_ | refine cE fun hc=> ?_ | refine cG (fun hc=> ?_) fun hc=> ?_) <;> (try simp only [hc,bs, ↓reduceIte]at h) <;> try simp only [hc]
 | (with_reducible refine aJ hQ ?_;simp only [az,aB,dv,dw,go_sem,hD,hJ,hP,hY,c1];repeat' (first | exact Ok.out | with_reducible refine aO ?_ ?_ | (simp;done))))
end Go.Abs

/-! MirEq -/

namespace Go.Abs
def OG:List aD→List aD→Bool
 | [],_=>true
 | _::_,[]=>true
 | x::l,y::l'=>if !(x==y)then false else OG l l'
def KM (l l':List aD):Bool:=if(l.length:Int) != (l'.length:Int)then false else OG l l'
def Ar.lk:List Ar→List Ar→Bool
 | [],_=>true
 | _::_,[]=>true
 | a::l,b::l'=>if !(a.ref==b.ref) || !(a.name==b.name) || !(Ex.beq a.x b.x)then false else Ar.lk l l'
mutual
def Sm.beq:Sm→Sm→Bool
 | ⟨id,kind,labels,name,proc,x,has,args,aZ,aQ⟩,⟨id',Qx,LY,Ed,Qy,x',Tr,vU,OH,OI⟩=>
  if id != id' || kind != Qx || !(name==Ed) || !(proc==Qy) || !(has==Tr) || !(KM labels LY) || !(Ex.beq x x') || (args.length:Int) != (vU.length:Int)then false
  else if !(Ar.lk args vU)then false
  else if(if(aZ.length:Int) != (OH.length:Int)then false else Sm.lk aZ OH)then(if(aQ.length:Int) != (OI.length:Int)then false else Sm.lk aQ OI)else false
def Sm.lk:List Sm→List Sm→Bool
 | [],_=>true
 | _::_,[]=>true
 | s::l,t::l'=>if !(Sm.beq s t)then false else Sm.lk l l'
end
def Sm.Ts (l l':List Sm):Bool:=if(l.length:Int) != (l'.length:Int)then false else Sm.lk l l'
def Pm.lk:List Pm→List Pm→Bool
 | [],_=>true
 | _::_,[]=>true
 | a::l,b::l'=>if !((a.name==b.name) && (a.ref==b.ref))then false else Pm.lk l l'
def Pc.lk:List Pc→List Pc→Bool
 | [],_=>true
 | _::_,[]=>true
 | f::l,g::l'=>
  if !(f.name==g.name) || (f.params.length:Int) != (g.params.length:Int) || !(KM f.vars g.vars) || !(KM f.fin g.fin) || !(Sm.Ts f.body g.body)then false
  else if !(Pm.lk f.params g.params)then false else Pc.lk l l'
def Pg.beq (p q:Pg):Bool:=if !(KM p.globals q.globals) || (p.procs.length:Int) != (q.procs.length:Int)then false else Pc.lk p.procs q.procs
end Go.Abs

/-! RefEq -/

namespace Go.Abs
open Go.Proofs
end Go.Abs

/-! RefEq2 -/

namespace Go.Abs
set_option maxRecDepth 8000
open Go.Proofs
def uk (n:Int):Ex:=⟨1,n,[],[]⟩
def mO (s:aD):Ex:=⟨2,0,s,[]⟩
def wL (op:Int) (a b:Ex):Ex:=⟨op,0,[],[a,b]⟩
theorem Qz (n:Int) (s:St):aI Try.prog my [.int .i64 n] s (.agg (bA (uk n))) s:=by
 refine aI.pure ?_ rfl (by simp [D.ok,kl]) s
 unfold S0
 refine aI.go Aq rfl fun B Q hB hQ=> ?_
 have⟨hD,hJ,hP,hY⟩:=cf
 repeat' (first
 | simp only [go_sem,hD,hJ,hP,hY,uk]
 | (with_reducible first | refine cD fun hc=> ?_ | refine cE fun hc=> ?_ | refine cG (fun hc=> ?_) fun hc=> ?_) <;> (try simp only [hc,bs, ↓reduceIte]at h) <;> try simp only [hc]
 | (with_reducible refine aJ hQ ?_;(try cases h);simp only [az,aB,dv,dw,go_sem,hD,hJ,hP,hY,uk];try exact lz)
 | (cases h;done))
theorem EA (t:aD) (s:St):aI Try.prog gS [.str t] s (.agg (bA (mO t))) s:=by
 refine aI.pure ?_ rfl (by simp [D.ok,kl]) s
 unfold S0
 refine aI.go yK rfl fun B Q hB hQ=> ?_
 have⟨hD,hJ,hP,hY⟩:=cf
 repeat' (first
 | simp only [go_sem,hD,hJ,hP,hY,mO]
 | (with_reducible first | refine cD fun hc=> ?_ | refine cE fun hc=> ?_ | refine cG (fun hc=> ?_) fun hc=> ?_) <;> (try simp only [hc,bs, ↓reduceIte]at h) <;> try simp only [hc]
 | (with_reducible refine aJ hQ ?_;(try cases h);simp only [az,aB,dv,dw,go_sem,hD,hJ,hP,hY,mO];try exact lz)
 | (cases h;done))
theorem G4 (op:Int) (a b:Ex) (s:St):aI Try.prog oU [.int .i64 op, .agg (bA a), .agg (bA b)] s (.agg (bA (wL op a b))) s:=by
 refine aI.pure ?_ (by simp [D.bI,D.ok,kl]) (by simp [D.ok,kl]) s
 unfold S0
 refine aI.go As rfl fun B Q hB hQ=> ?_
 have⟨hD,hJ,hP,hY⟩:=cf
 repeat' (first
 | simp only [go_sem,hD,hJ,hP,hY,wL]
 | (with_reducible first | refine cD fun hc=> ?_ | refine cE fun hc=> ?_ | refine cG (fun hc=> ?_) fun hc=> ?_) <;> (try simp only [hc,bs, ↓reduceIte]at h) <;> try simp only [hc]
 | (with_reducible refine aJ hQ ?_;(try cases h);simp only [az,aB,dv,dw,go_sem,hD,hJ,hP,hY,wL];try exact lz)
 | (cases h;done))
def source:aD:= [103,108,111,98,97,108,32,103,59,10,112,114,111,99,32,109,97,105,110,40,41,32,123,10,32,118,97,114,32,118,59,10,32,118,32,61,32,50,59,10,32,103,32,61,32,112,40,51,44,32,114,101,102,32,118,41,59,10,32,112,114,105,110,116,32,118,59,10,32,112,114,105,110,116,32,103,59,10,125,10,112,114,111,99,32,112,40,120,44,32,114,101,102,32,121,41,32,123,10,32,121,32,61,32,121,32,43,32,120,59,10,32,105,102,32,40,121,32,62,32,57,41,32,123,10,32,32,103,111,116,111,32,101,59,10,32,125,10,32,114,101,116,117,114,110,32,121,59,10,101,58,32,125,10]
def jT:Pg:=⟨[[103]],[
 ⟨[109,97,105,110],[],[[118]],[
  ⟨1,1,[],[118],[],uk 2,false,[],[],[]⟩,
  ⟨2,4,[],[103],[112],ml,false,[⟨false,[],uk 3⟩,⟨true,[118],ml⟩],[],[]⟩,
  ⟨3,3,[],[],[],mO [118],false,[],[],[]⟩,
  ⟨4,3,[],[],[],mO [103],false,[],[],[]⟩],[]⟩,
 ⟨[112],[⟨[120],false⟩,⟨[121],true⟩],[],[
  ⟨5,1,[],[121],[],wL 8 (mO [121]) (mO [120]),false,[],[],[]⟩,
  ⟨6,5,[],[],[],wL 12 (mO [121]) (uk 9),false,[],[⟨7,10,[],[101],[],ml,false,[],[],[]⟩],[]⟩,
  ⟨8,9,[],[],[],mO [121],true,[],[],[]⟩],[[101]]⟩]⟩
theorem OM (s:St):aI Try.prog qD [] s (.agg (bS jT)) s:=by
 refine aI.pure ?_ rfl (by simp [D.ok,km]) s
 unfold S0
 refine aI.go yG rfl fun B Q hB hQ=> ?_
 have⟨hD,hJ,hP,hY⟩:=cf
 repeat' (first
 | simp only [go_sem,hD,hJ,hP,hY,jT]
 | (with_reducible refine CU (Qz _ _) ?_)
 | (with_reducible refine CU (EA _ _) ?_)
 | (with_reducible refine CU (G4 _ _ _ _) ?_)
 | (with_reducible first | refine cD fun hc=> ?_ | refine cE fun hc=> ?_ | refine cG (fun hc=> ?_) fun hc=> ?_) <;> (try simp only [hc,bs, ↓reduceIte]at h) <;> try simp only [hc]
 | (with_reducible refine aJ hQ ?_;(try cases h);simp only [az,aB,dv,dw,go_sem,hD,hJ,hP,hY,jT];repeat' (first | exact Ok.out | with_reducible refine aO ?_ ?_ | (simp;done)))
 | (cases h;done))
 repeat' (first | exact Ok.out | with_reducible refine Wk.agg ?_ | with_reducible refine Wk.rows ?_ | with_reducible refine Wk.slice ?_ | with_reducible refine fH.cons ?_ ?_ | with_reducible refine jq.cons ?_ ?_)
end Go.Abs

/-! LawTo1 -/

namespace Go.Abs
set_option maxRecDepth 8000
open Go.Proofs
theorem G5:jT.may=true:=by decide +kernel
theorem xw:jT.kY:=⟨yi G5 (by decide +kernel),by decide +kernel⟩
def Pg.aae (p:Pg) (n:Int):aD:=match p.procs[(Oz n p.procs.length).toNat]? with | some f=>f.name | none=> []
end Go.Abs

/-! AlP -/

namespace Go.Abs
set_option maxRecDepth 8000
open Go.Proofs
theorem LZ : ∃ F V,jT.procs[0]? = some F∧F.body[1]? = some V∧V∈jT.pre∧(jT.arity.1==0 && (V.jS jT && V.ny jT))=true∧
 (jT.arity.1==0 && (({V with name:= [118]} : Sm).jS jT && ({V with name:= [118]} : Sm).ny jT))=false:=by
 refine⟨_,_,rfl,rfl, ?_,by decide +kernel,by decide +kernel⟩
 simp [jT,Pg.pre,Sm.e9,Sm.pre]
theorem ON:FW.kY:=⟨yi (by decide +kernel) (by decide +kernel),by decide +kernel⟩
theorem G6:FW.alias=(1,0):=by decide +kernel
theorem Ju (s:St):aI Try.prog oi [] s (.bool true) s:=by
 refine aI.pure ?_ rfl rfl s
 have hS:=fun s=>OM s
 obtain⟨F,V,hF,hV,hm,e1,e2⟩:=LZ
 have hv:=xw.pre V hm
 have f1:=fun s=>A4 xw hv s
 have f2:=fun s=>A4 (v:= {V with name:= [118]}) xw hv s
 rw [e1]at f1
 rw [e2]at f2
 have f3:=fun s=>(yx ON s).Gh (d:= .agg [.slice .full 0 [], .slice .full 0 []]) (Wk.agg (.cons (Wk.nil _ _ _) (.cons (Wk.nil _ _ _) .nil)))
 simp only [G6]at f3
 generalize jT=P at *
 simp only [cr,wj]at f1 f2
 have w1:((1:Int)==1)=true:=rfl
 have w3:Int.toNat 1=1:=rfl
 have w2:((0:Int)==0)=true:=rfl
 unfold S0
 refine aI.go v8 rfl fun B Q hB hQ=> ?_
 have⟨hD,hJ,hP,hY⟩:=cf
 repeat' (first
 | simp only [go_sem,hD,hJ,hP,hY,wj,hF,Oc,hV,cr,w1,w2,w3,Bool.not_false]
 | (with_reducible refine CU (hS _) ?_)
 | (with_reducible refine CU (f1 _) ?_)
 | (with_reducible refine CU (f2 _) ?_)
 | (with_reducible refine CU (f3 _) ?_)
 | (with_reducible refine aJ hQ ?_;simp only [az,aB,Option.some.injEq,exists_eq_left',go_sem,hD,hJ,hP,hY];repeat' (first | exact Ok.out | with_reducible refine aO ?_ ?_ | (simp;done))))
end Go.Abs

/-! LawAl2 -/

namespace Go.Abs
set_option maxRecDepth 8000
open Go.Proofs
theorem A6 {p:Pg} : ∀ {l:List Sm},(∀ v∈l,(v.kind==4)=true→v.ny p=true)→A3 p l=none
 | [],_=>rfl
 | v::l,h=>by
  simp only [A3]
  rw [if_neg,A6 fun w m=>h w (List.mem_cons_of_mem _ m)]
  intro c
  simp only [Bool.and_eq_true,Bool.not_eq_true']at c
  rw [h v (List.mem_cons_self ..) c.1]at c
  exact absurd c.2 (by simp)
theorem uR {nm:aD} {T:List aD} : ∀ {l:List Ar} {seen:List aD},(∀ a∈l,a.ref=false)→jC nm T seen l=true
 | [],_,_=>rfl
 | a::l,seen,h=>by
  simp only [jC]
  rw [h a (List.mem_cons_self ..)]
  exact uR fun b m=>h b (List.mem_cons_of_mem _ m)
theorem yT (p:Pg) (s:St):aI Try.prog oI [.agg (bS p)] s (.bool true) s:=by
 refine aI.pure ?_ (by simp [D.bI,D.ok,km]) rfl s
 have h1:=fun s=>Ju s
 have h2:=fun s=>OF p s
 unfold S0
 rcases Bool.eq_false_or_eq_true (decide (p.uj≤20000))with hw | hw
 case inr=>
  simp only [hw]at h2
  refine aI.go kp rfl fun B Q hB hQ=> ?_
  have⟨hD,hJ,hP,hY⟩:=cf
  repeat' (first
 | simp only [go_sem,hD,hJ,hP,hY]
 | (with_reducible refine CU (h1 _) ?_)
 | (with_reducible refine CU (h2 _) ?_)
 | (with_reducible first | refine cD fun hc=> ?_ | refine cE fun hc=> ?_ | refine cG (fun hc=> ?_) fun hc=> ?_) <;> (try simp only [hc,bs, ↓reduceIte]at h) <;> try simp only [hc]
 | (with_reducible refine aJ hQ ?_;exact ju)
 | (cases h;done))
 simp only [hw]at h2
 obtain⟨dE,QA⟩:=Ez (of_decide_eq_true hw)
 have ho:p.kY:=⟨QA,by omega⟩
 obtain⟨qW,qf,uL⟩:=ho.procs
 have h3:=fun s=>vo ho s
 have h4:=fun s=>yx ho s
 have b0:(p.arity.1 != 0) = !(p.arity.1==0):=rfl
 rcases Bool.eq_false_or_eq_true (p.arity.1==0)with b1 | b1
 case inr=>
  rw [b1]at b0
  have e:p.alias=(1,0):=by unfold Pg.alias;rw [b1];rfl
  rw [e]at h4
  have w1:((1:Int)==1)=true:=rfl
  have w2:((0:Int)==0)=true:=rfl
  refine aI.go kp rfl fun B Q hB hQ=> ?_
  have⟨hD,hJ,hP,hY⟩:=cf
  repeat' (first
 | simp only [go_sem,hD,hJ,hP,hY,b0,Bool.not_false,w1,w2]
 | (with_reducible refine CU (h1 _) ?_)
 | (with_reducible refine CU (h2 _) ?_)
 | (with_reducible refine CU (h3 _) ?_)
 | (with_reducible refine CU (h4 _) ?_)
 | (with_reducible first | refine cD fun hc=> ?_ | refine cE fun hc=> ?_ | refine cG (fun hc=> ?_) fun hc=> ?_) <;> (try simp only [hc,bs, ↓reduceIte]at h) <;> try simp only [hc]
 | (with_reducible refine aJ hQ ?_;(try cases h);simp only [az,aB,dv,dw,go_sem,hD,hJ,hP,hY,b0,Bool.not_false,w1,w2];try exact lz)
 | (cases h;done))
 rw [b1]at b0
 have hb:=yk (vu b1).1
 have Rr:=(Cb hb).1
 have tg:=fun s=>Qm (p:=p) (by omega) s
 have kN:=(Jl hb).2
 refine aI.go kp rfl fun B Q hB hQ=> ?_
 have⟨hD,hJ,hP,hY⟩:=cf
 repeat' (first
 | simp only [go_sem,hD,hJ,hP,hY,b0,Bool.not_true]
 | (with_reducible refine CU (h1 _) ?_)
 | (with_reducible refine CU (h2 _) ?_)
 | (with_reducible refine CU (h3 _) ?_)
 | (with_reducible refine CU (tg _) ?_)
 | (with_reducible first | refine cD fun hc=> ?_ | refine cE fun hc=> ?_ | refine cG (fun hc=> ?_) fun hc=> ?_) <;> (try simp only [hc,bs, ↓reduceIte]at h) <;> try simp only [hc]
 | (with_reducible refine aJ hQ ?_;(try cases h);simp only [az,aB,dv,dw,go_sem,hD,hJ,hP,hY,b0,Bool.not_true];try exact lz)
 | (cases h;done))
 refine dF 1 0 (bp.ind (ι:=List It×Nat×List It) (fun i=>p.all.drop i.2.1=i.1∧p.all=i.2.2++i.1∧∀ x∈i.2.2,∀ a∈x.s.args,a.ref=false) (fun i=>i.1.length)
  (fun i=> [(1, .ptr 0 0),(21, .slice .shared 16 (p.all.map dP)),(22, .int .i64 (p.all.length:Int)),(23, .int .i64 (i.2.1:Int))]) (fun i=>⟨[bS p],[]⟩) ?_ (p.all,0,[]) ⟨rfl,rfl,fun _ m=>nomatch m⟩)
 rintro⟨rest,k,done⟩ ⟨i1,i2,i3⟩ IH
 dsimp only at i1 i2 i3
 cases rest with
 | nil=>
  have hD:=drop_nil i1
  rw [List.append_nil]at i2
  have e:p.alias=(0,0):=by
   unfold Pg.alias
   rw [if_pos b1,A6]
   ·rfl
   ·intro v hv _
    rw [← kN,List.mem_map]at hv
    obtain⟨i,hi,rfl⟩:=hv
    rw [i2]at hi
    exact uR (i3 i hi)
  rw [e]at h4
  have w2:((0:Int)==0)=true:=rfl
  repeat' (first
 | simp only [go_sem,hD,hJ,hP,hY,w2]
 | (with_reducible refine CU (h4 _) ?_)
 | (with_reducible first | refine cD fun hc=> ?_ | refine cE fun hc=> ?_ | refine cG (fun hc=> ?_) fun hc=> ?_) <;> (try simp only [hc,bs, ↓reduceIte]at h) <;> try simp only [hc]
 | (with_reducible refine aJ hQ ?_;(try cases h);simp only [az,aB,dv,dw,go_sem,hD,hJ,hP,hY,w2];try exact lz)
 | (cases h;done))
 | cons x rest=>
  obtain⟨hJ,g2,hD,g4⟩:=drop_cons i1
  have bB:k<4611686018427387904:=by omega
  have hxm:x.s∈p.pre:=by rw [← kN];exact List.mem_map_of_mem (List.mem_of_getElem? hJ)
  have tg:=rZ (ho.pre _ hxm)
  repeat' (first
 | simp only [go_sem,hD,hJ,hP,hY]
 | (with_reducible first | refine cD fun hc=> ?_ | refine cE fun hc=> ?_ | refine cG (fun hc=> ?_) fun hc=> ?_) <;> (try simp only [hc,bs, ↓reduceIte]at h) <;> try simp only [hc]
 | (with_reducible refine aJ hQ ?_;exact ju)
 | (cases h;done))
  refine dF 2 0 (bp.ind (ι:=List Ar×Nat×List Ar) (fun i=>x.s.args.drop i.2.1=i.1∧x.s.args=i.2.2++i.1∧∀ a∈i.2.2,a.ref=false) (fun i=>i.1.length)
   (fun i=> [(1, .ptr 0 0),(21, .slice .shared 16 (p.all.map dP)),(22, .int .i64 (p.all.length:Int)),(23, .int .i64 (k:Int)),(29, .slice .shared 6 (x.s.args.map c7)),(30, .int .i64 (x.s.args.length:Int)),(31, .int .i64 (i.2.1:Int))]) (fun i=>⟨[bS p,dP x],[]⟩) ?_ (x.s.args,0,[]) ⟨rfl,rfl,fun _ m=>nomatch m⟩)
  rintro⟨qn,k2,QB⟩ ⟨j1,j2,j3⟩ wu
  dsimp only at j1 j2 j3
  cases qn with
  | nil=>
   have OO:=drop_nil j1
   rw [List.append_nil]at j2
   repeat' (first
 | simp only [go_sem,hD,hJ,hP,hY,OO]
 | (with_reducible first | refine cD fun hc=> ?_ | refine cE fun hc=> ?_ | refine cG (fun hc=> ?_) fun hc=> ?_) <;> (try simp only [hc,bs, ↓reduceIte]at h) <;> try simp only [hc]
 | (with_reducible refine aJ hQ ?_;(try cases h);simp only [az,aB,dv,dw,go_sem,hD,hJ,hP,hY,OO];try exact lz)
 | (cases h;done))
   refine dA 1 0 ?_ ?_ (IH (rest,k+1,done++ [x]) ⟨g2,by rw [i2];simp,fun y m=>by
    rcases List.mem_append.1 m with m | m
    ·exact i3 y m
    ·have:y=x:=by simpa using m
     subst this
     rw [j2];exact j3⟩ (Nat.lt_succ_self _))
   ·(simp only [go_sem,hD,hJ,hP,hY,aH bB];try exact bw)
   ·(simp only [go_sem,hD,hJ,hP,hY,aH bB];try exact bw)
  | cons a qn=>
   obtain⟨lR,j4,sy,j5⟩:=drop_cons j1
   have rk:k2<4611686018427387904:=by omega
   rcases Bool.eq_false_or_eq_true a.ref with c1 | c1
   ·repeat' (first
 | simp only [go_sem,hD,hJ,hP,hY,lR,sy,c1]
 | (with_reducible first | refine cD fun hc=> ?_ | refine cE fun hc=> ?_ | refine cG (fun hc=> ?_) fun hc=> ?_) <;> (try simp only [hc,bs, ↓reduceIte]at h) <;> try simp only [hc]
 | (with_reducible refine aJ hQ ?_;(try cases h);simp only [az,aB,dv,dw,go_sem,hD,hJ,hP,hY,lR,sy,c1];try exact lz)
 | (cases h;done))
   ·repeat' (first
 | simp only [go_sem,hD,hJ,hP,hY,lR,sy,c1]
 | (with_reducible first | refine cD fun hc=> ?_ | refine cE fun hc=> ?_ | refine cG (fun hc=> ?_) fun hc=> ?_) <;> (try simp only [hc,bs, ↓reduceIte]at h) <;> try simp only [hc]
 | (with_reducible refine aJ hQ ?_;(try cases h);simp only [az,aB,dv,dw,go_sem,hD,hJ,hP,hY,lR,sy,c1];try exact lz)
 | (cases h;done))
    refine dA 2 0 ?_ ?_ (wu (qn,k2+1,QB++ [a]) ⟨j4,by rw [j2];simp,fun y m=>by
     rcases List.mem_append.1 m with m | m
     ·exact j3 y m
     ·have:y=a:=by simpa using m
      subst this;exact c1⟩ (Nat.lt_succ_self _))
    ·(simp only [go_sem,hD,hJ,hP,hY,aH rk];try exact bw)
    ·(simp only [go_sem,hD,hJ,hP,hY,aH rk];try exact bw)
end Go.Abs

/-! Glue2 -/

namespace Go.Abs
def M0:Map:=⟨fun _ _=>none,fun _=>(0, .any),fun _=>none⟩
def Kept (w w':World):Prop:=w.keptBut w' (fun _=>False)∧∀ a:Addr,a.block<w.heap.size→w'.frozen? a=w.frozen? a
theorem Kept.frame {w w':World} (h:Kept w w') (may:MemPlace→Prop):w.keptBut w' may:=World.keptBut_mono (fun _ f=>f.elim) h.1
theorem Ext.OP {M M':Map} {s':St} {w w':World} (e:Ext M S0 w M' s' w'):Kept w w':=by
 have hh : ∀ b,b<w.heap.size→w'.heap[b]? = w.heap[b]? :=fun b hb=>
  e.kept b hb (fun o ho=>by simp [S0]at ho) (fun t c z hl=>by obtain⟨n,hn⟩:=hl;simp [S0]at hn)
 refine⟨⟨e.os,e.output,fun i hi=> ?_⟩,fun a ha=> ?_⟩
 ·rw [hh i hi]
  exact(World.keptBut_refl w (fun _=>False)).2.2 i hi
 ·simp only [World.frozen?,hh _ ha]
theorem Tv (G:Nat→Nat→Option Value) (w:World) (h : ∀ b o v,G b o=some v→w.cell? ⟨b,o,none⟩=some v∧v.oneCell'=true):Rel ⟨G,fun _=>(0, .any),fun _=>none⟩ S0 w:=
 ⟨h,fun o ds e=>by simp [S0]at e,fun o ho=>by simp [S0]at ho,fun o o' ho=>by simp [S0]at ho,fun t n e=>by simp [S0]at e,
  fun t b c z o hl=>by obtain⟨n,hn⟩:=hl;simp [S0]at hn,fun t t' b c z c' z' hl=>by obtain⟨n,hn⟩:=hl;simp [S0]at hn⟩
def EB (w:World):Prop:=∀ g cs,L7 g=some cs→∃ T fr,w.heap[g]? = some (.cells cs T fr)
theorem QC (G:Nat→Nat→Option Value) {w:World} (h:EB w):Laid ⟨G,fun _=>(0, .any),fun _=>none⟩ S0 w:=
 fun g cs hg=>⟨h g cs hg,fun o ho=>by simp [S0]at ho,fun t c z hl=>by obtain⟨n,hn⟩:=hl;simp [S0]at hn⟩
theorem G7 {P:Program} {f:FuncId} {args:List D} {eD:Array Value} {w:World} {G:Nat→Nat→Option Value} (h:dr P f args S0 fun d _=>d = .bool true)
 (hG : ∀ b o v,G b o=some v→w.cell? ⟨b,o,none⟩=some v∧v.oneCell'=true) (hl:eD.size=args.length)
 (ha : ∀ (i:Nat) (d:D) (v:Value),args[i]? = some d→eD[i]? = some v→RD ⟨G,fun _=>(0, .any),fun _=>none⟩ S0 d v) (iu:EB w) :
 Calls P f eD w fun e w'=>e = .returned (.bool true)∧Kept w w':=by
 refine(h _ w eD (Tv G w hG) (QC G iu) hl ha).mono fun e w' hw=> ?_
 obtain⟨M',d,v,s',rfl,rfl,he,_,hv⟩:=hw
 rw [hv.jO]
 exact⟨rfl,he.OP⟩
section
variable {P:Program} {H:Type} {enc:TypeId×Value→H}
theorem A7 {f:Func} {s:ChangeSpec} {apart fresh handsOn again:Bool} {W W':World} {args:Array Value} {v:Value} {ds gs:List (DataW H)} {before pa pv:List MemPlace}
 (hW:DataW.Whole enc P f.params.toList s.vars apart W args.toList ds gs before)
 (OQ : ∀ (b:Nat) (sp:Nat→Bool) (hd:Bool),DataW.TrodAll enc P W' b sp hd f.resultTypes.toList (v.resultList f.resultTypes.size) (s.fn H (ds++gs)).results [])
 (yW : ∀ sp:Nat→Bool,(∀ p∈before,sp p.block=true)→DataW.TrodAll enc P W' 0 sp true f.params.toList args.toList (s.fn H (ds++gs)).args pa)
 (wM : ∀ sp:Nat→Bool,(∀ p∈before,sp p.block=true)→DataW.TrodVars enc P W' sp s.vars (s.fn H (ds++gs)).vars pv)
 (qf:before=pa++pv) (hk:Kept W W')
 (xP : ∀ (j:Nat) (t:TypeId) (r:Value),f.resultTypes[j]? = some t→(v.resultList f.resultTypes.size)[j]? = some r→Value.okWide P W' .any 0 t r) :
 s.post enc P f apart fresh handsOn again W args v W':=by
 have hD : ∀ p∈before,p.block<W.heap.size:=fun p hp=>hW.lt p hp
 have hold : ∀ p∈before,(fun b=>decide (b<W.heap.size)) p.block=true:=fun p hp=>by simpa using hD p hp
 refine⟨ds,gs,before,[],pa,pv,hW,OQ _ _ _,yW _ hold,wM _ hold,World.keptBut_mono (fun p hp=>⟨hp, ?_⟩) (hk.frame (· ∈before)),fun _=> ?_⟩
 ·rw [qf,List.mem_append]at hp
  exact Or.inr hp
 ·obtain⟨_,_,_,_,_,hz,hn⟩:=hW
  refine⟨xP,_,_,([]++pa)++pv,⟨[]++pa,pv,ChangeShapes.trodAll_append (yW _ (fun _ _=>rfl)) (OQ _ _ _),wM _ (fun _ _=>rfl),rfl, ?_, ?_⟩, ?_⟩
  ·intro b off hp
   have kz:MemPlace.cell b off∈before:=by rw [qf];simpa using hp
   rw [hk.2 _ (hD _ kz)]
   exact hz b off kz
  ·intro ha
   have:=hn ha
   rw [qf]at this
   simpa using this
  ·intro p hp _
   rw [qf]
   simpa using hp
end
end Go.Abs

/-! Join -/

namespace Go.Abs
open Go.RowKit Go.ChangeShapes Go.WideShapes
def xy (w:World) (b o:Nat):Option Value:=
 match w.cell? ⟨b,o,none⟩with
 | some v=>if v.oneCell'=true then some v else none
 | none=>none
theorem Ch {w:World} (b o:Nat) (v:Value) (h:xy w b o=some v):w.cell? ⟨b,o,none⟩=some v∧v.oneCell'=true:=by
 unfold xy at h
 split at h
 ·split at h
  ·cases h;exact⟨‹_›, ‹_›⟩
  ·cases h
 ·cases h
def tR (w:World):Map:=⟨xy w,fun _=>(0, .any),fun _=>none⟩
theorem Kept.sameAt {w w':World} (h:Kept w w') {p:MemPlace} (hp:p.block<w.heap.size):w.sameAt w' p:=by
 have hk:=h.1.2.2 p.block hp
 cases p with
 | cell b off=>
  simp only [MemPlace.block]at hk hp
  simp only [World.sameAt,World.cell?]
  split at hk
  ·rename_i c t fr c' t' fr' e e'
   rw [e,e']
   simp only [hk.2.2.2 off (fun f=>f)]
  ·rename_i es clock sh OR e e'
   rw [e,e']
  ·rw [hk]
 | map b=>
  simp only [MemPlace.block]at hk hp
  simp only [World.sameAt]
  split at hk
  ·rename_i c t fr c' t' fr' e e'
   rw [e,e']
   obtain⟨rfl,rfl,hs,hc⟩:=hk
   have:c'=c:=by
    apply Array.ext_getElem?
    intro i
    exact hc i (fun f=>f)
   rw [this]
  ·rename_i es clock sh OR e e'
   rcases hk with f | ⟨rfl,rfl⟩
   ·exact f.elim
   ·rw [e,e']
  ·exact hk
section
variable {P:Program} {H:Type} {enc:TypeId×Value→H} {T:TypeId→Prop}
theorem wN (K:Kids P T) (hz : ∀ {t e:TypeId},T t→P.underlying t=some (.slice e)→0<P.cellsOf e) {W W':World} (hk:Kept W W') {sp:Nat→Bool} :
 ∀ {ts:List TypeId} {vs:List Value} {ds:List (DataW H)} {ps:List MemPlace},(∀ t∈ts,T t)→(∀ p∈ps,p.block<W.heap.size)→(∀ p∈ps,sp p.block=true)→
  DataW.TrodAll enc P W 0 (fun _=>true) true ts vs ds ps→DataW.TrodAll enc P W' 0 sp true ts vs ds ps
 | [],[],[],_,_,_,_,h=>h
 | t::ts,v::vs,d::ds,ps,hT,hD,hs,⟨p,q,⟨n,h1⟩,h2,e⟩=>by
  subst e
  refine⟨p,q,⟨n,DataW.trod_stays K hz (fun f=>by cases f) (hT t (List.mem_cons_self ..)) h1 (fun x hx=>hk.sameAt (hD x (List.mem_append_left _ hx))) (fun x hx=>hs x (List.mem_append_left _ hx))⟩, ?_,rfl⟩
  exact wN K hz hk (fun t ht=>hT t (List.mem_cons_of_mem _ ht)) (fun x hx=>hD x (List.mem_append_right _ hx)) (fun x hx=>hs x (List.mem_append_right _ hx)) h2
 | [],[],_::_,_,_,_,_,h=>h.elim
 | [],_::_,_,_,_,_,_,h=>h.elim
 | _::_,[],_,_,_,_,_,h=>h.elim
 | _::_,_::_,[],_,_,_,_,h=>h.elim
theorem Jv (K:Kids P T) (hz : ∀ {t e:TypeId},T t→P.underlying t=some (.slice e)→0<P.cellsOf e) {f:Func} {s:ChangeSpec} {apart fresh handsOn again:Bool} {tb:TypeId} {W W':World} {args:Array Value} {ds gs:List (DataW H)} {before:List MemPlace}
 (hT : ∀ t∈f.params.toList,T t) (hb:P.underlying tb=some .bool) (hr:f.resultTypes = #[tb]) (wM:s.vars = []) (hW:DataW.Whole enc P f.params.toList s.vars apart W args.toList ds gs before)
 (sx:s.fn H (ds++gs) = {results:= [.lit (.bool true)],args:=ds}) (hk:Kept W W'):s.post enc P f apart fresh handsOn again W args (.bool true) W':=by
 have OS:=hW
 have hD : ∀ p∈before,p.block<W.heap.size:=fun p hp=>hW.lt p hp
 obtain⟨p,q,hA,hV,rfl,hfz,hnd⟩:=hW
 rw [wM]at hV
 obtain⟨rfl,rfl⟩:=trodVars_none hV
 simp only [List.append_nil]at hD sx
 refine A7 (pa:=p) (pv:= []) OS (fun b sp hd=> ?_) (fun sp uI=> ?_) (fun sp uI=> ?_) rfl hk (ok_one hr rfl (okWide_bool_mk hb _))
 ·rw [List.append_nil,sx,hr]
  exact trodAll_cons_mk (shut_bool hb _) trodAll_mk0
 ·rw [List.append_nil,sx]
  simp only [List.append_nil]at uI
  exact wN K hz hk hT hD uI hA
 ·rw [List.append_nil,sx,wM]
  rfl
theorem L1 {f:FuncId} {args:List D} {eD:Array Value} {w:World} (h:dr P f args S0 fun d _=>d = .bool true) (hl:eD.size=args.length)
 (ha : ∀ (i:Nat) (d:D) (v:Value),args[i]? = some d→eD[i]? = some v→RD (tR w) S0 d v) (iu:EB w):Calls P f eD w fun e w'=>e = .returned (.bool true)∧Kept w w':=
 G7 (G:=xy w) h Ch hl ha iu
end
end Go.Abs

/-! Binds1 -/

namespace Go.Abs
open Go.Proofs
def wO (n:Int):List D:= [.int .i64 n]
theorem QD (n:Int):D.bI 0 0 (wO n)=true:=rfl
theorem OT (n m:Nat) (l:List Int):D.gF n m (l.map wO)=l.map wO:=jv QD n m l
attribute [go_sem] wO OT
def QE (op:Int):aD:=
 if op=5 then [42]else if op=6 then [47]else if op=7 then [37]else if op=8 then [43]else if op=9 then [45]else if op=10 then [60]else if op=11 then [60,61]
 else if op=12 then [62]else if op=13 then [62,61]else if op=14 then [61,61]else if op=15 then [33,61]else if op=16 then [38,38]else [124,124]
def aaB (op:Int):Int:=(NT (QE op)).1
def G8:Nat→List aD
 | 0=> []
 | n+1=>G8 n++ [[UInt8.ofNat (97+n)]]
end Go.Abs

/-! Join2 -/

namespace Go.Abs
open Go.RowKit Go.ChangeShapes Go.WideShapes
end Go.Abs

/-! Join3 -/

namespace Go.Abs
open Go.RowKit Go.ChangeShapes Go.WideShapes
def dq (W:World) (ds:List D) (cs:List Value):Prop:=ds.length=cs.length∧(∀ (i:Nat) (d:D) (v:Value),ds[i]? = some d→cs[i]? = some v→RD (tR W) S0 d v)∧∀ v∈cs,v.oneCell'=true
theorem dq.one {W:World} {d:D} {v:Value} (h:RD (tR W) S0 d v) (hv:v.oneCell'=true):dq W [d] [v]:=by
 refine⟨rfl,fun i d' v' h1 h2=> ?_,fun u hu=>by simp at hu;subst hu;exact hv⟩
 cases i with
 | zero=>simp at h1 h2;subst h1 h2;exact h
 | succ i=>simp at h1
theorem dq.app {W:World} {ds kr:List D} {cs fT:List Value} (h:dq W ds cs) (h':dq W kr fT):dq W (ds++kr) (cs++fT):=by
 obtain⟨a1,a2,a3⟩:=h
 obtain⟨b1,b2,b3⟩:=h'
 refine⟨by simp [a1,b1],fun i d v h1 h2=> ?_,fun v hv=> ?_⟩
 ·by_cases hi:i<ds.length
  ·rw [List.getElem?_append_left hi]at h1
   rw [List.getElem?_append_left (by omega)]at h2
   exact a2 i d v h1 h2
  ·rw [List.getElem?_append_right (by omega)]at h1
   rw [List.getElem?_append_right (by omega), ← a1]at h2
   exact b2 _ d v h1 h2
 ·rcases List.mem_append.1 hv with hv | hv
  ·exact a3 v hv
  ·exact b3 v hv
theorem dq.at {W:World} {ds kr:List D} {cs:List Value} {o n:Nat} (h:dq W ds ((cs.drop o).take n)) (h':dq W kr (cs.drop (o+n))):dq W (ds++kr) (cs.drop o):=by
 have e:cs.drop o=(cs.drop o).take n++cs.drop (o+n):=by rw [← List.drop_drop,List.take_append_drop]
 rw [e]
 exact h.app h'
theorem dq.end {W:World} {cs:List Value} {o:Nat} (h:cs.length=o):dq W [] (cs.drop o):=by
 rw [← h,List.drop_length]
 exact⟨rfl,fun i d v h=>by simp at h,fun v hv=>by cases hv⟩
section
variable {H:Type} {enc:TypeId×Value→H} {P:Program} {W:World} {sp:Nat→Bool}
def structOf (P:Program) (t:TypeId):List (TypeId×Nat):=
 match P.underlying t with
 | some (.struct fs)=>fs.toList.map fun f=>(f.type,f.offset)
 | _=> []
theorem iI {t:TypeId} {l:List (TypeId×Nat)} {fuel:Nat} {cs:List Value} {x:DataW H×List MemPlace} (h:structOf P t=l) (dQ:l≠ []) (ht:DataW.trod enc P W 0 sp true fuel t cs=some x) :
 ∃ n,fuel=n+1∧cs.length=P.cellsOf t∧∀ (i:Nat) (f:TypeId×Nat),l[i]? = some f→∃ y,DataW.trod enc P W 0 sp true n f.1 ((cs.drop f.2).take (P.cellsOf f.1))=some y:=by
 unfold structOf at h
 split at h
 ·rename_i fs hu
  obtain⟨xs,n,e,_,hl,hlen,hf⟩:=DataW.trod_struct hu ht
  refine⟨n,e,hl,fun i f hi=> ?_⟩
  subst h
  rw [List.getElem?_map,Option.map_eq_some_iff]at hi
  obtain⟨g,hg,rfl⟩:=hi
  have J8:fs[i]? = some g:=by simpa using hg
  have hi:i<xs.length:=by rw [hlen];exact(Array.getElem?_eq_some_iff.1 J8).1
  exact⟨xs[i],by rw [hf i g J8,List.getElem?_eq_getElem hi]⟩
 ·exact absurd h.symm dQ
theorem yU {t:TypeId} {l:List (TypeId×Nat)} (h:structOf P t=l) (dQ:l≠ []) : ∃ fs,P.underlying t=some (.struct fs):=by
 unfold structOf at h
 split at h
 ·exact⟨_, ‹_›⟩
 ·exact absurd h.symm dQ
theorem uS {α:Type} {Q:Nat→α→Prop} : ∀ n,(∀ i,i<n→∃ y,Q i y)→∃ ys:List α,ys.length=n∧∀ i y,ys[i]? = some y→Q i y
 | 0,_=>⟨[],rfl,fun i y h=>by simp at h⟩
 | n+1,h=>by
  obtain⟨ys,h1,h2⟩:=uS n fun i hi=>h i (by omega)
  obtain⟨y,hy⟩:=h n (by omega)
  refine⟨ys++ [y],by simp [h1],fun i z hz=> ?_⟩
  by_cases hi:i<ys.length
  ·rw [List.getElem?_append_left hi]at hz;exact h2 i z hz
  ·rw [List.getElem?_append_right (by omega)]at hz
   have:i - ys.length=0:=by
    rcases Nat.eq_zero_or_pos (i - ys.length)with h | h
    ·exact h
    ·rw [List.getElem?_eq_none (by simp only [List.length_cons,List.length_nil];omega)]at hz;cases hz
   rw [this]at hz
   simp at hz
   subst hz
   have:i=n:=by omega
   subst this
   exact hy
theorem kZ {α:Type} (en:α→List D) (good:α→Prop) {z:Nat} {t e:TypeId} {fuel:Nat} {cs:List Value} {x:DataW H×List MemPlace} (ht:P.underlying t=some (.slice e)) (hz:P.cellsOf e=z) (hz0:0<z) (OU : ∀ y,(en y).length=z)
 (hel : ∀ n<fuel,∀ cs x,DataW.trod enc P W 0 sp true n e cs=some x→∃ y,dq W (en y) cs∧good y) (h:DataW.trod enc P W 0 sp true fuel t cs=some x) :
 ∃ ys:List α,dq W [.slice .shared z (ys.map en)] cs∧∀ y∈ys,good y:=by
 rcases DataW.trod_slice ht h with ⟨rfl,_⟩ | ⟨a,len,cap,elems,rest,n,hn,rfl,_,hb,hl,hm,hlen,pP,_,_⟩
 ·exact⟨[],dq.one (.gb _ _ _ rfl trivial) rfl,fun y hy=>by cases hy⟩
 ·by_cases h0:len=0
  ·subst h0
   exact⟨[],dq.one (.jL _ _ _) rfl,fun y hy=>by cases hy⟩
  ·obtain⟨ys,hys,vb⟩:=uS (Q:=fun i y=>good y∧∃ fT,W.cells? 0 (a.add (i*z)) z=some fT∧dq W (en y) fT) len fun i hi=>by
    have hc:=pP i hi
    rw [List.getElem?_eq_getElem (by omega),hz,Option.bind_eq_some_iff]at hc
    obtain⟨fT,h1,h2⟩:=hc
    obtain⟨y,h3,h4⟩:=hel n (by omega) _ _ h2
    exact⟨y,h4,fT,h1,h3⟩
   have cell : ∀ i y,ys[i]? = some y→∀ (j:Nat) d,(en y)[j]? = some d→∃ v,W.cell? ((a.add (i*z)).add j)=some v∧RD (tR W) S0 d v∧v.oneCell'=true:=by
    intro i y hy j d hd
    obtain⟨_,fT,h1,h2,h3,h4⟩:=vb i y hy
    obtain⟨_,k1,k2⟩:=World.cells?_some h1
    have hj:j<z:=by rw [← OU y];exact(List.getElem?_eq_some_iff.1 hd).1
    have hv:fT[j]? = some fT[j]:=List.getElem?_eq_getElem (by omega)
    exact⟨fT[j],by rw [k2 j hj,hv],h3 j d _ hd hv,h4 _ (List.getElem_mem _)⟩
   obtain⟨b,off,spot⟩:=a
   have QF:spot=none:=by
    have hy:ys[0]? = some (ys[0]'(by omega)):=List.getElem?_eq_getElem (by omega)
    obtain⟨d,hd⟩ : ∃ d,(en (ys[0]'(by omega)))[0]? = some d:=⟨_,List.getElem?_eq_getElem (show 0<(en (ys[0]'(by omega))).length by rw [OU];exact hz0)⟩
    obtain⟨v,hv,_⟩:=cell 0 _ hy 0 _ hd
    have:=World.cell?_spot hv
    simpa [Addr.add]using this
   subst QF
   have e:(ys.map en).length=len:=by simp [hys]
   have:=RD.slice (M:=tR W) (s:=S0) .shared z (ys.map en) b off cap (by omega) (fun row hr=>by obtain⟨y,_,rfl⟩:=List.mem_map.1 hr;exact OU y)
    (fun i row j d h1 h2=>by
     rw [List.getElem?_map,Option.map_eq_some_iff]at h1
     obtain⟨y,h1,rfl⟩:=h1
     obtain⟨v,hv,_,h4⟩:=cell i y h1 j d h2
     rw [add_plain,add_plain]at hv
     refine⟨v, ?_⟩
     show xy W b (off+(i*z+j))=_
     unfold xy
     rw [show off+(i*z+j)=off+i*z+j by omega,hv]
     simp [h4])
    (fun i row j d u h1 h2 hu=>by
     rw [List.getElem?_map,Option.map_eq_some_iff]at h1
     obtain⟨y,h1,rfl⟩:=h1
     obtain⟨v,hv,h3,h4⟩:=cell i y h1 j d h2
     rw [add_plain,add_plain]at hv
     obtain⟨hu,_⟩:=Ch _ _ _ hu
     rw [show off+(i*z+j)=off+i*z+j by omega,hv]at hu
     cases hu
     exact h3) trivial
   rw [e]at this
   refine⟨ys,dq.one this rfl,fun y hy=> ?_⟩
   obtain⟨i,hi⟩:=List.getElem?_of_mem hy
   exact(vb i y hi).1
theorem wP {t:TypeId} {fuel:Nat} {cs:List Value} {x:DataW H×List MemPlace} (ht:P.underlying t=some (.int .i64)) (h:DataW.trod enc P W 0 sp true fuel t cs=some x) : ∃ n:Int,dq W [.int .i64 n] cs∧n≤9223372036854775807∧ -9223372036854775808≤n:=by
 obtain⟨n,rfl,_,hw⟩:=DataW.trod_int ht h
 simp [Lit.wf,IntKind.min,IntKind.max,IntKind.signed,IntKind.bits]at hw
 exact⟨n,dq.one (.int _ _) rfl,by omega,by omega⟩
theorem xA {t:TypeId} {fuel:Nat} {cs:List Value} {x:DataW H×List MemPlace} (ht:P.underlying t=some .bool) (h:DataW.trod enc P W 0 sp true fuel t cs=some x) : ∃ b:Bool,dq W [.bool b] cs:=by
 obtain⟨n,rfl,_⟩:=DataW.trod_bool ht h
 exact⟨n,dq.one (.bool _) rfl⟩
theorem pH {t:TypeId} {fuel:Nat} {cs:List Value} {x:DataW H×List MemPlace} (ht:P.underlying t=some .string) (h:DataW.trod enc P W 0 sp true fuel t cs=some x) : ∃ s:aD,dq W (encStr s) cs∧s.length≤maxLen:=by
 obtain⟨s,rfl,_,hm⟩:=DataW.trod_string ht h
 obtain⟨⟨l⟩⟩:=s
 exact⟨l,dq.one (.str l) rfl,hm⟩
theorem QG {tE tI tN tS tK:TypeId} (hE:structOf P tE = [(tI,0),(tN,1),(tS,2),(tK,3)]) (RG:P.cellsOf tE=4) (hI:P.underlying tI=some (.int .i64)) (hN:P.underlying tN=some (.int .i64)) (hS:P.underlying tS=some .string) (hK:P.underlying tK=some (.slice tE))
 (cI:P.cellsOf tI=1) (cN:P.cellsOf tN=1) (cS:P.cellsOf tS=1) (cK:P.cellsOf tK=1) :
 ∀ (fuel:Nat) (cs:List Value) (x:DataW H×List MemPlace),DataW.trod enc P W 0 sp true fuel tE cs=some x→∃ y:Ex,dq W (bA y) cs∧y.mK:=by
 intro fuel
 induction fuel using Nat.strongRecOn with
 | _ fuel ih=>
  intro cs x h
  obtain⟨n,rfl,hl,hf⟩:=iI hE (by simp) h
  obtain⟨y0,h0⟩:=hf 0 _ rfl
  obtain⟨y1,h1⟩:=hf 1 _ rfl
  obtain⟨y2,h2⟩:=hf 2 _ rfl
  obtain⟨y3,h3⟩:=hf 3 _ rfl
  dsimp only at h0 h1 h2 h3
  rw [cI]at h0
  rw [cN]at h1
  rw [cS]at h2
  rw [cK]at h3
  obtain⟨op,r0,_⟩:=wP hI h0
  obtain⟨m,r1,hm,_⟩:=wP hN h1
  obtain⟨s,r2,_⟩:=pH hS h2
  obtain⟨ks,r3,hg⟩:=kZ (W:=W) bA Ex.mK hK RG (by decide) Kb (fun k hk cs x hx=>ih k (by omega) cs x hx) h3
  refine⟨⟨op,m,s,ks⟩, ?_,hm, ?_⟩
  ·have:=r0.at (r1.at (r2.at (r3.at (dq.end (by rw [hl,RG])))))
   rw [fD]
   simpa [encStr]using this
  ·clear r3
   induction ks with
   | nil=>exact trivial
   | cons k ks ihk=>exact⟨hg k (by simp),ihk fun y hy=>hg y (by simp [hy])⟩
theorem dq.agg {ds:List D} {v:Value} (h:dq W ds v.cells.toList) (hv : ∃ vs,v = .agg vs):RD (tR W) S0 (.agg ds) v:=by
 obtain⟨vs,rfl⟩:=hv
 obtain⟨h1,h2,h3⟩:=h
 have e:(Value.agg vs).cells=vs:=rfl
 rw [e]at h1 h2 h3
 refine .agg ds vs (by simpa using h1) (fun v hv=>h3 v (by simpa using hv)) fun i d v hd hv=>h2 i d v hd (by simpa using hv)
end
end Go.Abs

/-! Join4 -/

namespace Go.Abs
open Go.Proofs Go.RowKit Go.ChangeShapes Go.WideShapes
section
variable {H:Type} {enc:TypeId×Value→H} {W:World} {sp:Nat→Bool}
theorem G9 (fuel:Nat) (cs:List Value) (x:DataW H×List MemPlace) (h:DataW.trod enc Try.prog W 0 sp true fuel 43 cs=some x) : ∃ y:Ex,dq W (bA y) cs∧y.mK:=
 QG (tE:=43) (tI:=3) (tN:=2) (tS:=9) (tK:=41) (by kernel_rfl) (by kernel_rfl) (by kernel_rfl) (by kernel_rfl) (by kernel_rfl) (by kernel_rfl) (by kernel_rfl) (by kernel_rfl) (by kernel_rfl) (by kernel_rfl) _ _ _ h
theorem L2:Try.prog.underlying 22=some (.slice 9):=by kernel_rfl
theorem rp:Try.prog.underlying 9=some .string:=by kernel_rfl
theorem Ha:Try.prog.underlying 3=some (.int .i64):=by kernel_rfl
theorem xB:Try.prog.underlying 4=some .bool:=by kernel_rfl
theorem tT:Try.prog.cellsOf 9=1:=by kernel_rfl
theorem OY:Try.prog.cellsOf 3=1:=by kernel_rfl
theorem xC:Try.prog.cellsOf 4=1:=by kernel_rfl
theorem xD:Try.prog.cellsOf 22=1:=by kernel_rfl
theorem KN:Try.prog.cellsOf 43=4:=by kernel_rfl
theorem sc {fuel:Nat} {cs:List Value} {x:DataW H×List MemPlace} (h:DataW.trod enc Try.prog W 0 sp true fuel 22 cs=some x) : ∃ l:List aD,dq W [.slice .shared 1 (l.map encStr)] cs:=by
 obtain⟨l,h,_⟩:=kZ (W:=W) encStr (fun _=>True) L2 tT (by decide) (fun _=>rfl) (fun k hk cs x hx=>by
  obtain⟨s,hs,_⟩:=pH rp hx
  exact⟨s,hs,trivial⟩) h
 exact⟨l,h⟩
theorem OZ {fuel:Nat} {cs:List Value} {x:DataW H×List MemPlace} (h:DataW.trod enc Try.prog W 0 sp true fuel 64 cs=some x) : ∃ y:Pm,dq W (fm y) cs:=by
 obtain⟨n,rfl,hl,hf⟩:=iI (l:= [(9,0),(4,1)]) (by kernel_rfl) (by simp) h
 have hc:Try.prog.cellsOf 64=2:=by kernel_rfl
 obtain⟨y0,h0⟩:=hf 0 _ rfl
 obtain⟨y1,h1⟩:=hf 1 _ rfl
 dsimp only at h0 h1
 rw [tT]at h0
 rw [xC]at h1
 obtain⟨s,r0,_⟩:=pH rp h0
 obtain⟨b,r1⟩:=xA xB h1
 refine⟨⟨s,b⟩, ?_⟩
 have:=r0.at (r1.at (dq.end (by rw [hl,hc])))
 simpa [encStr,fm]using this
theorem O0 {fuel:Nat} {cs:List Value} {x:DataW H×List MemPlace} (h:DataW.trod enc Try.prog W 0 sp true fuel 51 cs=some x) : ∃ y:Ar,dq W (c7 y) cs∧y.x.mK:=by
 obtain⟨n,rfl,hl,hf⟩:=iI (l:= [(4,0),(9,1),(43,2)]) (by kernel_rfl) (by simp) h
 have hc:Try.prog.cellsOf 51=6:=by kernel_rfl
 obtain⟨y0,h0⟩:=hf 0 _ rfl
 obtain⟨y1,h1⟩:=hf 1 _ rfl
 obtain⟨y2,h2⟩:=hf 2 _ rfl
 dsimp only at h0 h1 h2
 rw [xC]at h0
 rw [tT]at h1
 rw [KN]at h2
 obtain⟨b,r0⟩:=xA xB h0
 obtain⟨s,r1,_⟩:=pH rp h1
 obtain⟨e,r2,hr⟩:=G9 _ _ _ h2
 refine⟨⟨b,s,e⟩, ?_,hr⟩
 have:=r0.at (r1.at (r2.at (dq.end (by rw [hl,hc]))))
 rw [fD]at this
 simpa [encStr,c7]using this
theorem sd : ∀ {l:List Sm},(∀ s∈l,s.mK)→Sm.qK l
 | [],_=>trivial
 | s::l,h=>⟨h s (List.mem_cons_self ..),sd fun t m=>h t (List.mem_cons_of_mem _ m)⟩
theorem O1 : ∀ (fuel:Nat) (cs:List Value) (x:DataW H×List MemPlace),DataW.trod enc Try.prog W 0 sp true fuel 47 cs=some x→∃ y:Sm,dq W (bf y) cs∧y.mK:=by
 intro fuel
 induction fuel using Nat.strongRecOn with
 | _ fuel ih=>
  intro cs x h
  obtain⟨n,rfl,hl,hf⟩:=iI (l:= [(3,0),(3,1),(22,2),(9,3),(9,4),(43,5),(4,9),(44,10),(45,11),(45,12)]) (by kernel_rfl) (by simp) h
  have hc:Try.prog.cellsOf 47=13:=by kernel_rfl
  have ca:Try.prog.cellsOf 44=1:=by kernel_rfl
  have fT:Try.prog.cellsOf 45=1:=by kernel_rfl
  have ua:Try.prog.underlying 44=some (.slice 51):=by kernel_rfl
  have us:Try.prog.underlying 45=some (.slice 47):=by kernel_rfl
  have ca6:Try.prog.cellsOf 51=6:=by kernel_rfl
  obtain⟨y0,h0⟩:=hf 0 _ rfl
  obtain⟨y1,h1⟩:=hf 1 _ rfl
  obtain⟨y2,h2⟩:=hf 2 _ rfl
  obtain⟨y3,h3⟩:=hf 3 _ rfl
  obtain⟨y4,h4⟩:=hf 4 _ rfl
  obtain⟨y5,h5⟩:=hf 5 _ rfl
  obtain⟨y6,h6⟩:=hf 6 _ rfl
  obtain⟨y7,h7⟩:=hf 7 _ rfl
  obtain⟨y8,h8⟩:=hf 8 _ rfl
  obtain⟨y9,h9⟩:=hf 9 _ rfl
  dsimp only at h0 h1 h2 h3 h4 h5 h6 h7 h8 h9
  rw [OY]at h0 h1
  rw [xD]at h2
  rw [tT]at h3 h4
  rw [KN]at h5
  rw [xC]at h6
  rw [ca]at h7
  rw [fT]at h8 h9
  obtain⟨id,r0,_⟩:=wP Ha h0
  obtain⟨kind,r1,_⟩:=wP Ha h1
  obtain⟨labels,r2⟩:=sc h2
  obtain⟨name,r3,_⟩:=pH rp h3
  obtain⟨proc,r4,_⟩:=pH rp h4
  obtain⟨e,r5,hr⟩:=G9 _ _ _ h5
  obtain⟨b,r6⟩:=xA xB h6
  obtain⟨args,r7,ha⟩:=kZ (W:=W) c7 (fun a=>a.x.mK) ua ca6 (by decide) (fun _=>rfl) (fun k hk cs x hx=>O0 hx) h7
  obtain⟨aZ,r8,ht⟩:=kZ (W:=W) bf Sm.mK us hc (by decide) yZ (fun k hk cs x hx=>ih k (by omega) cs x hx) h8
  obtain⟨aQ,r9,he⟩:=kZ (W:=W) bf Sm.mK us hc (by decide) yZ (fun k hk cs x hx=>ih k (by omega) cs x hx) h9
  refine⟨⟨id,kind,labels,name,proc,e,b,args,aZ,aQ⟩, ?_,hr,ha,sd ht,sd he⟩
  have:=r0.at (r1.at (r2.at (r3.at (r4.at (r5.at (r6.at (r7.at (r8.at (r9.at (dq.end (by rw [hl,hc])))))))))))
  rw [fD]at this
  rw [cr]
  simpa [encStr]using this
theorem O2 {fuel:Nat} {cs:List Value} {x:DataW H×List MemPlace} (h:DataW.trod enc Try.prog W 0 sp true fuel 61 cs=some x) : ∃ y:Pc,dq W (bL y) cs∧Sm.qK y.body:=by
 obtain⟨n,rfl,hl,hf⟩:=iI (l:= [(9,0),(59,1),(22,2),(45,3),(22,4)]) (by kernel_rfl) (by simp) h
 have hc:Try.prog.cellsOf 61=5:=by kernel_rfl
 have cp:Try.prog.cellsOf 59=1:=by kernel_rfl
 have fT:Try.prog.cellsOf 45=1:=by kernel_rfl
 have up:Try.prog.underlying 59=some (.slice 64):=by kernel_rfl
 have us:Try.prog.underlying 45=some (.slice 47):=by kernel_rfl
 have cp2:Try.prog.cellsOf 64=2:=by kernel_rfl
 have Ty:Try.prog.cellsOf 47=13:=by kernel_rfl
 obtain⟨y0,h0⟩:=hf 0 _ rfl
 obtain⟨y1,h1⟩:=hf 1 _ rfl
 obtain⟨y2,h2⟩:=hf 2 _ rfl
 obtain⟨y3,h3⟩:=hf 3 _ rfl
 obtain⟨y4,h4⟩:=hf 4 _ rfl
 dsimp only at h0 h1 h2 h3 h4
 rw [tT]at h0
 rw [cp]at h1
 rw [xD]at h2 h4
 rw [fT]at h3
 obtain⟨name,r0,_⟩:=pH rp h0
 obtain⟨ps,r1,_⟩:=kZ (W:=W) fm (fun _=>True) up cp2 (by decide) (fun _=>rfl) (fun k hk cs x hx=>by
  obtain⟨y,hy⟩:=OZ hx
  exact⟨y,hy,trivial⟩) h1
 obtain⟨vars,r2⟩:=sc h2
 obtain⟨body,r3,hb⟩:=kZ (W:=W) bf Sm.mK us Ty (by decide) yZ (fun k hk cs x hx=>O1 k cs x hx) h3
 obtain⟨fin,r4⟩:=sc h4
 refine⟨⟨name,ps,vars,body,fin⟩, ?_,sd hb⟩
 have:=r0.at (r1.at (r2.at (r3.at (r4.at (dq.end (by rw [hl,hc]))))))
 simpa [encStr,bL]using this
theorem O3 {fuel:Nat} {cs:List Value} {x:DataW H×List MemPlace} (h:DataW.trod enc Try.prog W 0 sp true fuel 25 cs=some x) : ∃ y:Pg,dq W (bS y) cs∧y.mK:=by
 obtain⟨n,rfl,hl,hf⟩:=iI (l:= [(22,0),(23,1)]) (by kernel_rfl) (by simp) h
 have hc:Try.prog.cellsOf 25=2:=by kernel_rfl
 have cp:Try.prog.cellsOf 23=1:=by kernel_rfl
 have up:Try.prog.underlying 23=some (.slice 61):=by kernel_rfl
 have cp5:Try.prog.cellsOf 61=5:=by kernel_rfl
 obtain⟨y0,h0⟩:=hf 0 _ rfl
 obtain⟨y1,h1⟩:=hf 1 _ rfl
 dsimp only at h0 h1
 rw [xD]at h0
 rw [cp]at h1
 obtain⟨globals,r0⟩:=sc h0
 obtain⟨procs,r1,hp⟩:=kZ (W:=W) bL (fun f=>Sm.qK f.body) up cp5 (by decide) (fun _=>rfl) (fun k hk cs x hx=>O2 hx) h1
 refine⟨⟨globals,procs⟩, ?_,hp⟩
 have:=r0.at (r1.at (dq.end (by rw [hl,hc])))
 simpa [bS]using this
end
end Go.Abs

/-! Join5 -/

namespace Go.Abs
open Go.Proofs Go.ChangeShapes Go.WideShapes Go.ChangeAt Go.RowKit
theorem Hb {H:Type} {enc:TypeId×Value→H} {P:Program} {W:World} {sp:Nat→Bool} {t:TypeId} {ts:List TypeId} {ps:List MemPlace} : ∀ {l:List Value} {ds:List (DataW H)},DataW.TrodAll enc P W 0 sp true (t::ts) l ds ps→
 ∃ v l' d kr p q,l=v::l'∧ds=d::kr∧DataW.Trod enc P W 0 sp true t v d p∧DataW.TrodAll enc P W 0 sp true ts l' kr q
 | v::l,d::ds,⟨p,q,h1,h2,e⟩=>⟨v,l,d,ds,p,q,rfl,rfl,h1,h2⟩
 | [],[],h=>h.elim
 | [],_::_,h=>h.elim
 | _::_,[],h=>h.elim
theorem Jw {H:Type} {enc:TypeId×Value→H} {P:Program} {W:World} {sp:Nat→Bool} {ps:List MemPlace} : ∀ {l:List Value} {ds:List (DataW H)},DataW.TrodAll enc P W 0 sp true [] l ds ps→l = []∧ds = []
 | [],[],_=>⟨rfl,rfl⟩
 | [],_::_,h=>h.elim
 | _::_,ds,h=>by cases ds <;> exact h.elim
end Go.Abs

/-! AliasNone -/

namespace Go.Proofs.Ythecipohmaannaa.aliasNone
open Go.ChangeShapes Go.WideShapes Go.ChangeAt Go.RowKit Go.Abs
theorem own:ownKnob Try.prog.godebug=none:=by kernel_rfl
theorem kids:Kids Try.prog (· < Try.prog.types.size):=kids_rows (by kernel_rfl) (by kernel_rfl)
theorem full : ∀ {t e:TypeId},t<Try.prog.types.size→Try.prog.underlying t=some (.slice e)→0<Try.prog.cellsOf e:=fun {t e}=>slices_full_of Try.prog (by kernel_rfl) t e
theorem walk (w:World) (x0:Pg) (EY:x0.mK) (v0:Value) (O4:RD (tR w) S0 (.agg (bS x0)) v0):Calls Try.prog 5 #[v0] w fun e w'=>e = .returned (.bool true)∧Kept w w':=by
 refine L1 (args:= [.agg (bS x0)]) ((yT x0 S0).mono fun _ _ h=>h.1) rfl ?_ (fun _ _ h=>nomatch h)
 intro i d v h1 h2
 match i,h1,h2 with
 | 0,h1,h2=>simp at h1 h2;subst h1 h2;exact O4
set_option maxRecDepth 100000 in
theorem lifted (os : Os) (started : os.Started) (H : Type) (enc : TypeId × Value → H) :
   ReturnsInHanded {} Try.checked os 5 .any (Rows.aliasNoneSpec.pre6 enc Try.prog Try.f5 Rows.aliasNoneRow.domain false) (Rows.aliasNoneSpec.post enc Try.prog Try.f5 false true false false) := by
 refine returnsInHanded_of_change (C := Try.checked) own started (by kernel_rfl) Try.func5
   (ChangeSpec.witness6 (enc := enc) (C := Try.checked) false ⟨#[], #[.agg #[.slice none 0 0, .slice none 0 0]], []⟩ 8 (by kernel_rfl) (by kernel_rfl) (by kernel_rfl) (by kernel_rfl)) ?_
 intro W base args ds gs before QL hW iX _
 have od : ∀ (j : Nat) t v, Try.f5.params[j]? = some t → args[j]? = some v → Value.okWide Try.prog W .any base t v := QL
 have OS := hW
 obtain ⟨p, q, O5, hV, rfl, hfz, hnd⟩ := hW
 have hA : DataW.TrodAll enc Try.prog W 0 (fun _ => true) true Try.f5.params.toList args.toList ds p := O5
 rw [Try.params5] at hA od
 obtain ⟨l⟩ := args
 obtain ⟨v0, l0, d0, QV, p0, q0, e0, RH, x3, O5⟩ := Hb hA
 obtain ⟨en, end_⟩ := Jw O5
 have el : l = [v0] := by rw [show l = _ from e0, en]
 subst el
 have ed : ds = [d0] := by rw [RH, end_]
 clear RH
 subst ed
 have hpg : ∀ (i : Nat) (v : Value), Try.f5.params[i]? = some 25 → (⟨[v0]⟩ : Array Value)[i]? = some v → ∀ {d ps}, DataW.Trod enc Try.prog W 0 (fun _ => true) true 25 v d ps → ∃ x : Pg, RD (tR W) S0 (.agg (bS x)) v ∧ x.mK := by
   intro i v hp hv d ps ⟨fuel, hf⟩
   obtain ⟨y, h1, h2⟩ := O3 hf
   obtain ⟨fs, vN⟩ := yU (P := Try.prog) (t := 25) (l := [(22, 0), (23, 1)]) (by kernel_rfl) (by simp)
   obtain ⟨cs, e, _⟩ := okWide_struct vN (od i 25 v (by rw [← Try.params5]; exact hp) hv)
   exact ⟨y, h1.agg ⟨cs, e⟩, h2⟩
 obtain ⟨x0, O4, EY⟩ := hpg 0 v0 (by rw [Try.params5]; rfl) rfl x3
 obtain ⟨rfl, rfl⟩ := trodVars_none hV
 refine (walk W x0 EY v0 O4).mono fun e W' ⟨he, hg⟩ => ?_
 subst he
 exact ⟨_, rfl, Jv kids full (by rw [Try.params5]; decide) Try.underlying4 (by kernel_rfl) rfl OS rfl hg⟩
theorem over:Rows.aliasNoneRow.holds Try.pinned (OpenSpec.ofChange Rows.aliasNoneSpec):=
 OpenClaim.holds_of_wide 5 Try.f5 rfl rfl rfl rfl rfl rfl rfl ⟨rfl,rfl,rfl,rfl,rfl⟩ rfl rfl rfl rfl rfl (by kernel_rfl) Try.func5 (by kernel_rfl)
  (of_decide_eq_true (by kernel_rfl)) (by unfold Func.isWrapper;first | (rw [if_pos (by decide +kernel)];kernel_rfl) | (rw [if_neg (by decide +kernel)];exact⟨rfl,rfl⟩))
  (fun os started H enc _=>lifted os started H enc)
theorem proved:Rows.AliasNoneSaid:=
 over
#print axioms proved
end Go.Proofs.Ythecipohmaannaa.aliasNone
