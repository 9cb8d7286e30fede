/-
  What is proved here: the statement CheckSwapSaid: whatever the arguments, the law, called, gives true, and of what was there nothing turns.
  No conditions.
-/
import Derived.Test.YtiopamakecmpkaaGreatCkS3
import Derived.KernelRfl
import Derived.RowKit3
import Derived.Test.YtiopamakecmpkaaGreatRows
import Derived.WalkKit
import Derived.ProofKit
import Derived.OpenShut
import Derived.ShutString
import Derived.ChangeMaps5
import Derived.Lib.ItoaMem
import Derived.Shelf.Strings.Builder1
import Derived.Lib.Join
import Derived.ChangeStays

set_option linter.unusedSimpArgs false
set_option linter.unusedVariables false

/-! Prs5 -/

namespace Go.Abs
set_option maxRecDepth 8000
open Go.Proofs
abbrev HT (m n:Nat):Prop:=∀ {nest:Int} {body:Bool} {r:Rd} {p:(List Sm×List ay)×Rd},Rd.rows m n nest body r=some p→∀ {s:St} {o:Nat},s.aA[o]? = some (b8 r)→
 aD Tryz.prog fZ [.ptr o 0, .int .i64 nest, .bool body] s (.tuple [.slice .shared 13 (p.1.1.map bd), .slice .shared 1 (p.1.2.map encStr)]) ⟨s.aA.set o (b8 p.2),s.aC⟩
abbrev zz (m n:Nat):Prop:=∀ {nest:Int} {r:Rd} {p:Sm×Rd},Rd.stmt m n nest r=some p→∀ {s:St} {o:Nat},s.aA[o]? = some (b8 r)→
 aD Tryz.prog nj [.ptr o 0, .int .i64 nest] s (.agg (bd p.1)) ⟨s.aA.set o (b8 p.2),s.aC⟩
abbrev Ac (m n:Nat):Prop:=∀ {nest:Int} {r:Rd} {p:List Sm×Rd},Rd.block m n nest r=some p→∀ {s:St} {o:Nat},s.aA[o]? = some (b8 r)→
 aD Tryz.prog iG [.ptr o 0, .int .i64 nest] s (.slice .shared 13 (p.1.map bd)) ⟨s.aA.set o (b8 p.2),s.aC⟩
abbrev Bo (m n:Nat):Prop:=∀ {nest:Int} {r:Rd} {p:Sm×Rd},Rd.choice m n nest r=some p→∀ {s:St} {o:Nat},s.aA[o]? = some (b8 r)→
 aD Tryz.prog l5 [.ptr o 0, .int .i64 nest] s (.agg (bd p.1)) ⟨s.aA.set o (b8 p.2),s.aC⟩
theorem I2 {m n:Nat} (DB:Ac m n):Bo m (n+1):=by
 intro nest r p h s o ho
 refine aD.jK ?_ rfl (fx r) (fx p.2) (by simp [D.ok,nh]) ho
 unfold Rd.choice at h
 refine aD.go uj rfl fun B Q hB hQ=> ?_
 have⟨hP,hY,hZ,gA⟩:=bw
 repeat' (first
 | simp only [go_sem,hP,hY,hZ,gA]
 | (rw [Option.bind_eq_some_iff]at h;obtain⟨_,h1,h⟩:=h;first | (with_reducible refine CU (Pl h1 (by with_unfolding_all rfl)) ?_) | (with_reducible refine CU (DB h1 (by with_unfolding_all rfl)) ?_) | (with_reducible refine CU (rH h1 (by with_unfolding_all rfl)) ?_))
 | (with_reducible first | refine br fun hc=> ?_ | refine bt fun hc=> ?_ | refine bu (fun hc=> ?_) fun hc=> ?_) <;> (try simp only [hc,bs, ↓reduceIte]at h) <;> try simp only [hc]
 | (with_reducible refine aF hQ ?_;(try cases h);simp only [az,aB,bB,bC,go_sem,hP,hY,hZ,gA];repeat' (first | exact Ok.out | with_reducible refine aG ?_ ?_ | (simp;done))))
theorem Mc {m n:Nat} (HU:HT m n):Ac m (n+1):=by
 intro nest r p h s o ho
 refine aD.jK ?_ rfl (fx r) (fx p.2) (by simp [D.ok,lM,Tag.ok]) ho
 unfold Rd.block at h
 refine aD.go vH rfl fun B Q hB hQ=> ?_
 have⟨hP,hY,hZ,gA⟩:=bw
 repeat' (first
 | simp only [go_sem,hP,hY,hZ,gA]
 | (rw [Option.bind_eq_some_iff]at h;obtain⟨_,h1,h⟩:=h;first | (with_reducible refine CU (oT h1 (by with_unfolding_all rfl)) ?_) | (obtain⟨gA,ZZ⟩:=N7 h1;subst ZZ;simp only [go_sem,gA,hP,hY,hZ,gA]) | (with_reducible refine CU (HU h1 (by with_unfolding_all rfl)) ?_))
 | (with_reducible first | refine br fun hc=> ?_ | refine bt fun hc=> ?_ | refine bu (fun hc=> ?_) fun hc=> ?_) <;> (try simp only [hc,bs, ↓reduceIte]at h) <;> try simp only [hc]
 | (with_reducible refine aF hQ ?_;(try cases h);simp only [az,aB,bB,bC,go_sem,hP,hY,hZ,gA];repeat' (first | exact Ok.out | with_reducible refine aG ?_ ?_ | (simp;done))))
theorem Pn {m n:Nat} (DB:Ac m n) (SC:Bo m n):zz m (n+1):=by
 intro nest r p h s o ho
 refine aD.jK ?_ rfl (fx r) (fx p.2) (by simp [D.ok,nh]) ho
 unfold Rd.stmt at h
 refine aD.go wj rfl fun B Q hB hQ=> ?_
 have⟨hP,hY,hZ,gA⟩:=bw
 repeat' (first
 | simp only [go_sem,hP,hY,hZ,gA]
 | (rw [Option.bind_eq_some_iff]at h;obtain⟨_,h1,h⟩:=h;first | (with_reducible refine CU (SA h1 (by with_unfolding_all rfl)) ?_) | (obtain⟨gA,ZZ⟩:=Rt h1;subst ZZ;simp only [go_sem,gA,hP,hY,hZ,gA]) | (with_reducible refine CU (n3 h1 (by with_unfolding_all rfl)) ?_;have hP:=qO h1) | (with_reducible refine CU (Pl h1 (by with_unfolding_all rfl)) ?_) | (with_reducible refine CU (DB h1 (by with_unfolding_all rfl)) ?_) | (with_reducible refine CU (WJ h1 (by with_unfolding_all rfl)) ?_) | (with_reducible refine CU (oT h1 (by with_unfolding_all rfl)) ?_) | (with_reducible refine CU (B8 h1 (by with_unfolding_all rfl)) ?_))
 | (with_reducible refine CU (SC h (by with_unfolding_all rfl)) ?_)
 | (with_reducible refine CU (SB h (by with_unfolding_all rfl)) ?_)
 | (with_reducible first | refine br fun hc=> ?_ | refine bt fun hc=> ?_ | refine bu (fun hc=> ?_) fun hc=> ?_) <;> (try simp only [hc,bs, ↓reduceIte]at h) <;> try simp only [hc]
 | (with_reducible refine aF hQ ?_;(try cases h);simp only [az,aB,bB,bC,go_sem,hP,hY,hZ,gA];repeat' (first | exact Ok.out | with_reducible refine aG ?_ ?_ | (simp;done))))
theorem Po {m n:Nat} (wO : ∀ j<n,zz m j) {nest:Int} {r:Rd} {p:(List Sm×List ay)×Rd} (h:Rd.rows m (n+1) nest true r=some p) :
 aD Tryz.prog fZ [.ptr 0 0, .int .i64 nest, .bool true] ⟨[b8 r],[]⟩ (.tuple [.slice .shared 13 (p.1.1.map bd), .slice .shared 1 (p.1.2.map encStr)]) ⟨[b8 p.2],[]⟩:=by
 unfold Rd.rows at h
 refine aD.go pD rfl fun B Q hB hQ=> ?_
 have⟨hP,hY,hZ,gA⟩:=bw
 repeat' (first
 | simp only [go_sem,hP,hY,hZ,gA]
 | (with_reducible first | refine br fun hc=> ?_ | refine bt fun hc=> ?_ | refine bu (fun hc=> ?_) fun hc=> ?_) <;> (try simp only [hc,bs, ↓reduceIte]at h) <;> try simp only [hc]
 | (with_reducible refine aF hQ ?_;simp only [az,aB,bB,bC,go_sem,hP,hY,hZ,gA];repeat' (first | exact Ok.out | with_reducible refine aG ?_ ?_ | (simp;done))))
 refine bj.nT 8 13 rfl ?_
 simp only [go_sem,hP,hY,hZ,gA]
 refine cM 1 1 (bj.ind (ι:=Nat×List Sm×Rd×Nat) (fun i=>Rd.sJ m i.1 nest true i.2.1 i.2.2.1=some p∧i.2.2.2=i.2.1.length∧i.1≤n) (fun i=>i.1)
  (fun i=> [(0, .ptr 0 0),(1, .int .i64 nest),(2, .bool true),(8, .slice (.tok 0) 13 (i.2.1.map bd))]) (fun i=>⟨[b8 i.2.2.1],[some i.2.2.2]⟩) ?_ (n,[],r,0) ⟨h,rfl,Nat.le_refl _⟩)
 rintro⟨j,l,r,k⟩ ⟨h,hk,hj⟩ IH
 dsimp only at hk hj;subst hk
 cases j with
 | zero=>simp only [Rd.sJ]at h;cases h
 | succ j=>
  have HV:=@wO j (by omega)
  simp only [Rd.sJ]at h
  repeat' (first
 | simp only [go_sem,hP,hY,hZ,gA,dv]
 | (rw [Option.bind_eq_some_iff]at h;obtain⟨_,h1,h⟩:=h;first | (with_reducible refine CU (HS h1 (by with_unfolding_all rfl)) ?_) | (with_reducible refine CU (zf h1 (by with_unfolding_all rfl)) ?_;have hP:=is_lt h1) | (obtain⟨hZ,ov⟩:=nU h1;subst ov;simp only [go_sem,hP,hY,hZ,gA]) | (with_reducible refine CU (HV h1 (by with_unfolding_all rfl)) ?_))
 | (with_reducible refine CU (jV (by with_unfolding_all rfl)) ?_)
 | (with_reducible first | refine br fun hc=> ?_ | refine bt fun hc=> ?_ | refine bu (fun hc=> ?_) fun hc=> ?_) <;> (try simp only [hc,bs, ↓reduceIte]at h) <;> try simp only [hc]
 | (with_reducible refine aF hQ ?_;(try cases h);simp only [az,aB,bB,bC,go_sem,hP,hY,hZ,gA,dv];repeat' (first | exact Ok.out | with_reducible refine aG ?_ ?_ | (simp;done))))
  ·refine eo 1 1 ?_ ?_ (IH (j,_,_,l.length+1) ⟨h,by simp,by dsimp only;omega⟩ (Nat.lt_succ_self _))
   ·(simp only [go_sem,hP,hY,hZ,gA,dv];try exact bQ)
   ·(simp only [go_sem,hP,hY,hZ,gA,dv];try exact bQ)
theorem Md {m n:Nat} (wO : ∀ j<n,zz m j) {nest:Int} {r:Rd} {p:(List Sm×List ay)×Rd} (h:Rd.rows m (n+1) nest false r=some p) :
 aD Tryz.prog fZ [.ptr 0 0, .int .i64 nest, .bool false] ⟨[b8 r],[]⟩ (.tuple [.slice .shared 13 (p.1.1.map bd), .slice .shared 1 (p.1.2.map encStr)]) ⟨[b8 p.2],[]⟩:=by
 unfold Rd.rows at h
 refine aD.go pD rfl fun B Q hB hQ=> ?_
 have⟨hP,hY,hZ,gA⟩:=bw
 repeat' (first
 | simp only [go_sem,hP,hY,hZ,gA]
 | (with_reducible first | refine br fun hc=> ?_ | refine bt fun hc=> ?_ | refine bu (fun hc=> ?_) fun hc=> ?_) <;> (try simp only [hc,bs, ↓reduceIte]at h) <;> try simp only [hc]
 | (with_reducible refine aF hQ ?_;simp only [az,aB,bB,bC,go_sem,hP,hY,hZ,gA];repeat' (first | exact Ok.out | with_reducible refine aG ?_ ?_ | (simp;done))))
 refine bj.nT 8 13 rfl ?_
 simp only [go_sem,hP,hY,hZ,gA]
 refine cM 1 1 (bj.ind (ι:=Nat×List Sm×Rd×Nat) (fun i=>Rd.sJ m i.1 nest false i.2.1 i.2.2.1=some p∧i.2.2.2=i.2.1.length∧i.1≤n) (fun i=>i.1)
  (fun i=> [(0, .ptr 0 0),(1, .int .i64 nest),(2, .bool false),(8, .slice (.tok 0) 13 (i.2.1.map bd))]) (fun i=>⟨[b8 i.2.2.1],[some i.2.2.2]⟩) ?_ (n,[],r,0) ⟨h,rfl,Nat.le_refl _⟩)
 rintro⟨j,l,r,k⟩ ⟨h,hk,hj⟩ IH
 dsimp only at hk hj;subst hk
 cases j with
 | zero=>simp only [Rd.sJ]at h;cases h
 | succ j=>
  have HV:=@wO j (by omega)
  simp only [Rd.sJ]at h
  repeat' (first
 | simp only [go_sem,hP,hY,hZ,gA,dv]
 | (rw [Option.bind_eq_some_iff]at h;obtain⟨_,h1,h⟩:=h;first | (with_reducible refine CU (HS h1 (by with_unfolding_all rfl)) ?_) | (with_reducible refine CU (zf h1 (by with_unfolding_all rfl)) ?_;have hP:=is_lt h1) | (obtain⟨hZ,ov⟩:=nU h1;subst ov;simp only [go_sem,hP,hY,hZ,gA]) | (with_reducible refine CU (HV h1 (by with_unfolding_all rfl)) ?_))
 | (with_reducible refine CU (jV (by with_unfolding_all rfl)) ?_)
 | (with_reducible first | refine br fun hc=> ?_ | refine bt fun hc=> ?_ | refine bu (fun hc=> ?_) fun hc=> ?_) <;> (try simp only [hc,bs, ↓reduceIte]at h) <;> try simp only [hc]
 | (with_reducible refine aF hQ ?_;(try cases h);simp only [az,aB,bB,bC,go_sem,hP,hY,hZ,gA,dv];repeat' (first | exact Ok.out | with_reducible refine aG ?_ ?_ | (simp;done))))
  ·refine eo 1 1 ?_ ?_ (IH (j,_,_,l.length+1) ⟨h,by simp,by dsimp only;omega⟩ (Nat.lt_succ_self _))
   ·(simp only [go_sem,hP,hY,hZ,gA,dv];try exact bQ)
   ·(simp only [go_sem,hP,hY,hZ,gA,dv];try exact bQ)
  ·refine eo 1 1 ?_ ?_ (IH (j,_,_,l.length+1) ⟨h,by simp,by dsimp only;omega⟩ (Nat.lt_succ_self _))
   ·(simp only [go_sem,hP,hY,hZ,gA,dv];try exact bQ)
   ·(simp only [go_sem,hP,hY,hZ,gA,dv];try exact bQ)
theorem Pp {m n:Nat} (wO : ∀ j<n,zz m j):HT m (n+1):=by
 intro nest body r p h s o ho
 refine aD.jK ?_ rfl (fx r) (fx p.2) (by simp [D.ok,D.bJ,lM,eD,Tag.ok]) ho
 cases body
 ·exact Md wO h
 ·exact Po wO h
theorem Z0 (m:Nat) : ∀ n,∀ k<n,HT m k∧zz m k∧Ac m k∧Bo m k:=by
 intro n
 induction n with
 | zero=>intro k h;exact absurd h (Nat.not_lt_zero _)
 | succ n ih=>
  intro k hk
  cases k with
  | zero=>
   refine⟨?_, ?_, ?_, ?_⟩
   ·intro nest body r p h;simp only [Rd.rows]at h;cases h
   ·intro nest r p h;simp only [Rd.stmt]at h;cases h
   ·intro nest r p h;simp only [Rd.block]at h;cases h
   ·intro nest r p h;simp only [Rd.choice]at h;cases h
  | succ k=>
   obtain⟨h1,h2,h3,h4⟩:=ih k (by omega)
   exact⟨Pp fun j hj=>(ih j (by omega)).2.1,Pn h3 h4,Mc h1,I2 h3⟩
theorem HU {m n:Nat} {nest:Int} {body:Bool} {r:Rd} {p:(List Sm×List ay)×Rd} (h:Rd.rows m n nest body r=some p) {s:St} {o:Nat} (ho:s.aA[o]? = some (b8 r)) :
 aD Tryz.prog fZ [.ptr o 0, .int .i64 nest, .bool body] s (.tuple [.slice .shared 13 (p.1.1.map bd), .slice .shared 1 (p.1.2.map encStr)]) ⟨s.aA.set o (b8 p.2),s.aC⟩:=
 (Z0 m (n+1) n (Nat.lt_succ_self _)).1 h ho
end Go.Abs

/-! Prs6 -/

namespace Go.Abs
set_option maxRecDepth 8000
open Go.Proofs
theorem vd {m:Nat} {B:fj} {Q:Exit→Tm→St→Prop} {row:List D} {name:ay} {p:Pc×Rd} (hB:B.s = ⟨[row],[]⟩) (hQ:ig 1 0 [(2,some (true,5))] (.agg (cA p.1)) ⟨[b8 p.2],[]⟩=Q)
 (ps:List Pm) (r:Rd) (h:Rd.xa m name ps r=some p) :
 bj Tryz.prog B 56 YT (jI 2 (lL (gB Tryz.prog B 56 YU Q) Q)) [(0, .ptr 0 0),(2, .ptr 1 0),(3, .ptr 2 0)]
  ⟨[b8 r,[.str [], .slice .full 0 [], .slice .full 0 [], .slice .full 0 [], .slice .full 0 []],[.str name, .slice .shared 2 (ps.map fE), .slice .full 0 [], .slice .full 0 [], .slice .full 0 []]],[]⟩:=by
 have⟨hP,hY,hZ,gA⟩:=bw
 unfold Rd.xa at h
 rw [Option.bind_eq_some_iff]at h
 obtain⟨q,h,hr⟩:=h
 refine bj.pb 2 2 1 rfl rfl ?_
 simp only [go_sem,hP,hY,hZ,gA]
 refine cM 3 1 (bj.ind (ι:=Nat×List ay×Rd×Nat) (fun i=>Rd.vars m i.1 i.2.1 i.2.2.1=some q∧i.2.2.2=i.2.1.length) (fun i=>i.1)
  (fun i=> [(0, .ptr 0 0),(2, .ptr 1 0),(3, .ptr 2 0)]) (fun i=>⟨[b8 i.2.2.1,[.str [], .slice .full 0 [], .slice .full 0 [], .slice .full 0 [], .slice .full 0 []],[.str name, .slice .shared 2 (ps.map fE), .slice (.tok 0) 1 (i.2.1.map encStr), .slice .full 0 [], .slice .full 0 []]],[some i.2.2.2]⟩) ?_ (m,[],r,0) ⟨h,rfl⟩)
 rintro⟨n,l,r,k⟩ ⟨h,hk⟩ IH
 dsimp only at hk;subst hk
 cases n with
 | zero=>simp only [Rd.vars]at h;cases h
 | succ n=>
  simp only [Rd.vars]at h
  repeat' (first
 | simp only [go_sem,hP,hY,hZ,gA]
 | (rw [Option.bind_eq_some_iff]at h;obtain⟨_,h1,h⟩:=h;first | (with_reducible refine CU (rH h1 (by with_unfolding_all rfl)) ?_) | (with_reducible refine CU (JI h1 (by with_unfolding_all rfl) (by with_unfolding_all rfl)) ?_) | (with_reducible refine CU (HU h1 (by with_unfolding_all rfl)) ?_))
 | (with_reducible first | refine br fun hc=> ?_ | refine bt fun hc=> ?_ | refine bu (fun hc=> ?_) fun hc=> ?_) <;> (try simp only [hc,bs, ↓reduceIte]at h) <;> try simp only [hc]
 | (with_reducible refine aF hQ ?_;exact lG)
 | (cases h;replace h:=hr;clear hr;(try simp only [bs, ↓reduceIte]at h))
 | (cases h;done))
  refine cM 3 1 (IH (n,_,_,_) ⟨h,rfl⟩ (Nat.lt_succ_self _))
theorem Z1 {m:Nat} {r:Rd} {p:Pc×Rd} (h:Rd.proc m r=some p) {s:St} {o:Nat} (ho:s.aA[o]? = some (b8 r)) :
 aD Tryz.prog ni [.ptr o 0] s (.agg (cA p.1)) ⟨s.aA.set o (b8 p.2),s.aC⟩:=by
 refine aD.jK ?_ rfl (fx r) (fx p.2) (by simp [D.ok,yM]) ho
 unfold Rd.proc Rd.other at h
 refine aD.go wv rfl fun B Q hB hQ=> ?_
 have⟨hP,hY,hZ,gA⟩:=bw
 repeat' (first
 | simp only [go_sem,hP,hY,hZ,gA]
 | (rw [Option.bind_eq_some_iff]at h;obtain⟨_,h1,h⟩:=h;first | (with_reducible refine CU (oT h1 (by with_unfolding_all rfl)) ?_) | (with_reducible refine CU (zf h1 (by with_unfolding_all rfl)) ?_) | (with_reducible refine CU (wz h1 (by with_unfolding_all rfl)) ?_))
 | (with_reducible refine CU (jV (by with_unfolding_all rfl)) ?_)
 | (with_reducible first | refine br fun hc=> ?_ | refine bt fun hc=> ?_ | refine bu (fun hc=> ?_) fun hc=> ?_) <;> (try simp only [hc,bs, ↓reduceIte]at h) <;> try simp only [hc]
 | (with_reducible refine aF hQ ?_;simp only [az,aB,bB,bC,go_sem,hP,hY,hZ,gA];repeat' (first | exact Ok.out | with_reducible refine aG ?_ ?_ | (simp;done))))
 ·refine cM 3 0 (vd hB hQ [] _ h)
 ·rename_i nm _ _ _ _ _
  rw [Option.bind_eq_some_iff]at h
  obtain⟨q,h,hr⟩:=h
  refine bj.pb 2 1 2 rfl rfl ?_
  simp only [go_sem,hP,hY,hZ,gA]
  refine cM 3 1 (bj.ind (ι:=Nat×List Pm×Rd×Nat) (fun i=>Rd.params i.1 i.2.1 i.2.2.1=some q∧i.2.2.2=i.2.1.length) (fun i=>i.1)
   (fun i=> [(0, .ptr 0 0),(2, .ptr 1 0),(3, .ptr 2 0)]) (fun i=>⟨[b8 i.2.2.1,[.str [], .slice .full 0 [], .slice .full 0 [], .slice .full 0 [], .slice .full 0 []],[.str nm.1, .slice (.tok 0) 2 (i.2.1.map fE), .slice .full 0 [], .slice .full 0 [], .slice .full 0 []]],[some i.2.2.2]⟩) ?_ (m,[],_,0) ⟨h,rfl⟩)
  rintro⟨n,l,r,k⟩ ⟨h,hk⟩ IH
  dsimp only at hk;subst hk
  cases n with
  | zero=>simp only [Rd.params]at h;cases h
  | succ n=>
   simp only [Rd.params]at h
   repeat' (first
 | simp only [go_sem,hP,hY,hZ,gA]
 | (rw [Option.bind_eq_some_iff]at h;obtain⟨_,h1,h⟩:=h;first | (with_reducible refine CU (rH h1 (by with_unfolding_all rfl)) ?_) | (with_reducible refine CU (wz h1 (by with_unfolding_all rfl)) ?_) | (obtain⟨hZ,ov⟩:=nU h1;subst ov;simp only [go_sem,hP,hY,hZ,gA]) | (with_reducible refine CU (oT h1 (by with_unfolding_all rfl)) ?_))
 | (with_reducible refine CU (jV (by with_unfolding_all rfl)) ?_)
 | (with_reducible first | refine br fun hc=> ?_ | refine bt fun hc=> ?_ | refine bu (fun hc=> ?_) fun hc=> ?_) <;> (try simp only [hc,bs, ↓reduceIte]at h) <;> try simp only [hc]
 | (with_reducible refine aF hQ ?_;exact lG)
 | (cases h;replace h:=hr;clear hr;(try simp only [bs, ↓reduceIte]at h))
 | (cases h;done))
   ·refine cM 3 1 (IH (n,_,_,l.length+1) ⟨h,by simp⟩ (Nat.lt_succ_self _))
   ·refine cM 3 0 (vd hB hQ _ _ h)
   ·refine cM 3 0 (vd hB hQ _ _ h)
 ·refine cM 3 0 (vd hB hQ [] _ h)
theorem HW {m:Nat} {B:fj} {Q:Exit→Tm→St→Prop} {row:List D} {g:List ay} {p:Pg×Rd} (hB:B.s = ⟨[row],[]⟩) (hQ:ig 1 0 [(2,some (true,2))] (.agg (cd p.1)) ⟨[b8 p.2],[]⟩=Q)
 (r:Rd) {k:Nat} (h:((Rd.procs m k [] r).bind fun q=>some (⟨g,q.1⟩,q.2))=some p) :
 bj Tryz.prog B 49 QTC (jI 2 (lL (gB Tryz.prog B 49 QTL Q) Q)) [(0, .ptr 0 0),(2, .ptr 1 0),(3, .ptr 2 0)]
  ⟨[b8 r,[.slice .full 0 [], .slice .full 0 []],[.slice .shared 1 (g.map encStr), .slice .full 0 []]],[]⟩:=by
 have⟨hP,hY,hZ,gA⟩:=bw
 rw [Option.bind_eq_some_iff]at h
 obtain⟨q,h,hr⟩:=h
 cases hr
 refine bj.pb 2 1 5 rfl rfl ?_
 simp only [go_sem,hP,hY,hZ,gA]
 refine cM 3 1 (bj.ind (ι:=Nat×List Pc×Rd×Nat) (fun i=>Rd.procs m i.1 i.2.1 i.2.2.1=some q∧i.2.2.2=i.2.1.length) (fun i=>i.1)
  (fun i=> [(0, .ptr 0 0),(2, .ptr 1 0),(3, .ptr 2 0)]) (fun i=>⟨[b8 i.2.2.1,[.slice .full 0 [], .slice .full 0 []],[.slice .shared 1 (g.map encStr), .slice (.tok 0) 5 (i.2.1.map cA)]],[some i.2.2.2]⟩) ?_ (k,[],r,0) ⟨h,rfl⟩)
 rintro⟨n,l,r,k⟩ ⟨h,hk⟩ IH
 dsimp only at hk;subst hk
 cases n with
 | zero=>simp only [Rd.procs]at h;cases h
 | succ n=>
  simp only [Rd.procs,Rd.N8,Rd.GQ]at h
  repeat' (first
 | simp only [go_sem,hP,hY,hZ,gA]
 | (rw [Option.bind_eq_some_iff]at h;obtain⟨_,h1,h⟩:=h;first | (with_reducible refine CU (zf h1 (by with_unfolding_all rfl)) ?_;have hP:=is_lt h1) | (with_reducible refine CU (B8 h1 (by with_unfolding_all rfl)) ?_) | (with_reducible refine CU (Z1 h1 (by with_unfolding_all rfl)) ?_) | (obtain⟨hZ,ov⟩:=nU h1;subst ov;simp only [go_sem,hP,hY,hZ,gA]) | (with_reducible refine CU (n3 h1 (by with_unfolding_all rfl)) ?_))
 | (with_reducible refine CU (jV (by with_unfolding_all rfl)) ?_)
 | (with_reducible first | refine br fun hc=> ?_ | refine bt fun hc=> ?_ | refine bu (fun hc=> ?_) fun hc=> ?_) <;> (try simp only [hc,bs, ↓reduceIte]at h) <;> try simp only [hc]
 | (with_reducible refine aF hQ ?_;(try cases h);simp only [az,aB,bB,bC,go_sem,hP,hY,hZ,gA];repeat' (first | exact Ok.out | with_reducible refine aG ?_ ?_ | (simp;done))))
  ·refine cM 3 1 (IH (n,_,_,l.length+1) ⟨h,by simp⟩ (Nat.lt_succ_self _))
end Go.Abs

/-! Lex3 -/

namespace Go.Abs
set_option maxRecDepth 8000
open Go.Proofs
theorem SD {c:UInt8} {r:ay} (h:nA c=true):0<qh (c::r):=by simp [qh,h]
theorem Me {text:ay} (hl:text.length≤100000) {B:fj} {Q:Exit→Tm→St→Prop} {p:List bM×Int×Int} (hB:B.s=S0)
 (hQ:ig 0 0 [(2,none),(3,some (true,2))] (.tuple [.slice .shared 4 (p.1.map dX), .agg (l8 p.2)]) ⟨[],[]⟩=Q)
 {n pos:Nat} {out:List bM} (ho:out.length≤2000) (hp:pos≤text.length) (IH:q8 text B Q p (n+1))
 {c:UInt8} {r:ay} (h1:text.drop pos=c::r) (hb:tO c=false) (hc:((c.toNat:Int)==35)=false) (hL:oS c=false) (hD:nA c=true) (hn:(c::r).length<n+1) (h:mH (n+1) pos (c::r) out=p) :
 gB Tryz.prog B 152 yY (jm Tryz.prog B 152 tL Q) (nC text out pos) (oh out):=by
 have hZ:0<1:=Nat.zero_lt_one
 have gA:0<1:=Nat.zero_lt_one
 have hY:=(drop_cons h1).1
 have g4:=(drop_cons h1).2.2.2
 have hP:pos<4611686018427387904:=by omega
 have eB:decide ((pos:Int)≥(text.length:Int))=false:=by simp;omega
 have eU:(out.length+1)*41≤bx:=by simp only [bx];omega
 have cz:=Hf (c::r)
 have ta:=SD (r:=r) hD
 have rI:(c::r).length=text.length - pos:=by rw [← h1,List.length_drop]
 have vv:=Hg (c::r)
 simp only [mH,hb,Bool.false_eq_true, ↓reduceIte,hc,Dp,hL,hD]at h
 simp only [tO,Bool.or_eq_false_iff]at hb
 generalize hK:qh (c::r)=k at h cz ta vv
 have hlen:((c::r).take k).length=k:=by rw [List.length_take];omega
 have oG:=fun s=>RA vv (by rw [hlen];omega) s
 simp only [hlen]at h
 have fI:((c::r).take k)[0]? = some c:=by rw [List.getElem?_take_of_lt ta];rfl
 have e2:(0:Int)≤(pos:Int)∧(pos:Int)≤((pos+k:Nat):Int)∧((pos+k:Nat):Int)≤(text.length:Int):=by omega
 have e3:(text.take (pos+k)).drop pos=(c::r).take k:=by rw [xh,h1]
 have fin:text.drop (pos+k)=(c::r).drop k:=by rw [← h1,List.drop_drop]
 have sO:((c::r).drop k).length<n:=by rw [List.length_drop];omega
 have U6:pos+k≤text.length:=by omega
 repeat' (first
 | simp only [go_sem,hP,hY,hZ,gA,eB,hb.1.1.1,hb.1.1.2,hb.1.2,hb.2,hc,hL,hD]
 | (with_reducible refine CU (gL _ _) ?_)
 | (with_reducible refine CU (jj _ _) ?_)
 | (with_reducible refine bT (l:=3) (by with_unfolding_all rfl) ?_)
 | (with_reducible refine aF hQ ?_;simp only [az,aB,bB,bC,go_sem,hP,hY,hZ,gA];repeat' (first | exact Ok.out | with_reducible refine aG ?_ ?_ | (simp;done))))
 refine cM 2 1 (bj.ind (ι:=ay×Nat) (fun i=>text.drop i.2=i.1∧i.2+qh i.1=pos+k) (fun i=>i.1.length)
  (fun i=>nC text out i.2) (fun i=>⟨[[.int .i64 0, .int .i64 0],[.int .i64 0, .str [], .int .i64 0, .int .i64 (pos:Int)]],[some out.length]⟩) ?_ (c::r,pos) ⟨h1,by dsimp only;omega⟩)
 rintro⟨rest,j⟩ ⟨j1,j2⟩ Za
 dsimp only at j1 j2
 have step : ∀ d oY,rest=d::oY→nA d=true→gB Tryz.prog B 152 YM (lL (bj Tryz.prog B 152 YM
  (jI 3 (lL (gB Tryz.prog B 152 YN (jm Tryz.prog B 152 tL Q)) (jm Tryz.prog B 152 tL Q))))
  (jI 3 (lL (gB Tryz.prog B 152 YN (jm Tryz.prog B 152 tL Q)) (jm Tryz.prog B 152 tL Q))))
  (nC text out j) ⟨[[.int .i64 0, .int .i64 0],[.int .i64 0, .str [], .int .i64 0, .int .i64 (pos:Int)]],[some out.length]⟩:=by
  rintro d oY rfl hd
  obtain⟨hY,g2,eB,g5⟩:=drop_cons j1
  have hP:j<4611686018427387904:=by omega
  simp only [qh,hd, ↓reduceIte]at j2
  repeat' (first
 | simp only [go_sem,hP,hY,hZ,gA,eB,hd]
 | (with_reducible refine CU (jj _ _) ?_)
 | (with_reducible first | refine br fun hc=> ?_ | refine bt fun hc=> ?_ | refine bu (fun hc=> ?_) fun hc=> ?_) <;> (try simp only [hc,bs, ↓reduceIte]at h) <;> try simp only [hc]
 | (with_reducible refine aF hQ ?_;(try cases h);simp only [az,aB,bB,bC,go_sem,hP,hY,hZ,gA,eB,hd];repeat' (first | exact Ok.out | with_reducible refine aG ?_ ?_ | (simp;done))))
  refine cM 2 1 (Za (oY,j+1) ⟨g2,by dsimp only;omega⟩ (Nat.lt_succ_self _))
 cases rest with
 | nil=>
  have eB:=drop_nil j1
  simp only [qh,Nat.add_zero]at j2
  subst j2
  by_cases hz:k > 1∧(c.toNat:Int)=48
  ·have z1:decide ((k:Int) > 1)=true:=by simp;omega
   have z2:((c.toNat:Int)==48)=true:=by simp [hz.2]
   rw [if_pos hz]at h
   dsimp only at h
   repeat' (first
 | simp only [go_sem,hP,hY,hZ,gA,eB,e2,e3,hlen,fI,z1,z2]
 | (with_reducible refine bT (l:=4) (by with_unfolding_all rfl) ?_)
 | (with_reducible refine bT (l:=5) (by with_unfolding_all rfl) ?_)
 | (with_reducible first | refine br fun hc=> ?_ | refine bt fun hc=> ?_ | refine bu (fun hc=> ?_) fun hc=> ?_) <;> (try simp only [hc,bs, ↓reduceIte]at h) <;> try simp only [hc]
 | (with_reducible refine aF hQ ?_;(try cases h);simp only [az,aB,bB,bC,go_sem,hP,hY,hZ,gA,eB,e2,e3,hlen,fI,z1,z2];repeat' (first | exact Ok.out | with_reducible refine aG ?_ ?_ | (simp;done))))
  ·have HX:decide ((k:Int) > 1)=false∨(decide ((k:Int) > 1)=true∧((c.toNat:Int)==48)=false):=by
    by_cases h1:k > 1
    ·right;exact⟨by simp;omega,by simp;intro h2;exact hz ⟨h1,h2⟩⟩
    ·left;simp;omega
   rw [if_neg hz]at h
   cases hw:uP 0 ((c::r).take k)with
   | none=>
    have HY:n4 ((c::r).take k)=(0,false):=by simp only [n4,hw]
    simp only [HY]at oG
    simp only [hw]at h
    rcases HX with z1 | ⟨z1,z2⟩
    ·repeat' (first
 | simp only [go_sem,hP,hY,hZ,gA,eB,e2,e3,hlen,fI,z1]
 | (with_reducible refine CU (oG _) ?_)
 | (with_reducible refine bT (l:=4) (by with_unfolding_all rfl) ?_)
 | (with_reducible refine bT (l:=5) (by with_unfolding_all rfl) ?_)
 | (with_reducible first | refine br fun hc=> ?_ | refine bt fun hc=> ?_ | refine bu (fun hc=> ?_) fun hc=> ?_) <;> (try simp only [hc,bs, ↓reduceIte]at h) <;> try simp only [hc]
 | (with_reducible refine aF hQ ?_;(try cases h);simp only [az,aB,bB,bC,go_sem,hP,hY,hZ,gA,eB,e2,e3,hlen,fI,z1];repeat' (first | exact Ok.out | with_reducible refine aG ?_ ?_ | (simp;done))))
    ·repeat' (first
 | simp only [go_sem,hP,hY,hZ,gA,eB,e2,e3,hlen,fI,z1,z2]
 | (with_reducible refine CU (oG _) ?_)
 | (with_reducible refine bT (l:=4) (by with_unfolding_all rfl) ?_)
 | (with_reducible refine bT (l:=5) (by with_unfolding_all rfl) ?_)
 | (with_reducible first | refine br fun hc=> ?_ | refine bt fun hc=> ?_ | refine bu (fun hc=> ?_) fun hc=> ?_) <;> (try simp only [hc,bs, ↓reduceIte]at h) <;> try simp only [hc]
 | (with_reducible refine aF hQ ?_;(try cases h);simp only [az,aB,bB,bC,go_sem,hP,hY,hZ,gA,eB,e2,e3,hlen,fI,z1,z2];repeat' (first | exact Ok.out | with_reducible refine aG ?_ ?_ | (simp;done))))
   | some v=>
    have HY:n4 ((c::r).take k)=(v,true):=by simp only [n4,hw]
    simp only [HY]at oG
    simp only [hw,hlen]at h
    by_cases qA:out.length=2000
    ·have jC:((out.length:Int)==2000)=true:=by simp [qA]
     simp only [qA, ↓reduceIte]at h
     rcases HX with z1 | ⟨z1,z2⟩
     ·repeat' (first
 | simp only [go_sem,hP,hY,hZ,gA,eB,e2,e3,hlen,fI,z1,jC]
 | (with_reducible refine CU (oG _) ?_)
 | (with_reducible refine bT (l:=4) (by with_unfolding_all rfl) ?_)
 | (with_reducible refine bT (l:=5) (by with_unfolding_all rfl) ?_)
 | (with_reducible first | refine br fun hc=> ?_ | refine bt fun hc=> ?_ | refine bu (fun hc=> ?_) fun hc=> ?_) <;> (try simp only [hc,bs, ↓reduceIte]at h) <;> try simp only [hc]
 | (with_reducible refine aF hQ ?_;(try cases h);simp only [az,aB,bB,bC,go_sem,hP,hY,hZ,gA,eB,e2,e3,hlen,fI,z1,jC];repeat' (first | exact Ok.out | with_reducible refine aG ?_ ?_ | (simp;done))))
     ·repeat' (first
 | simp only [go_sem,hP,hY,hZ,gA,eB,e2,e3,hlen,fI,z1,z2,jC]
 | (with_reducible refine CU (oG _) ?_)
 | (with_reducible refine bT (l:=4) (by with_unfolding_all rfl) ?_)
 | (with_reducible refine bT (l:=5) (by with_unfolding_all rfl) ?_)
 | (with_reducible first | refine br fun hc=> ?_ | refine bt fun hc=> ?_ | refine bu (fun hc=> ?_) fun hc=> ?_) <;> (try simp only [hc,bs, ↓reduceIte]at h) <;> try simp only [hc]
 | (with_reducible refine aF hQ ?_;(try cases h);simp only [az,aB,bB,bC,go_sem,hP,hY,hZ,gA,eB,e2,e3,hlen,fI,z1,z2,jC];repeat' (first | exact Ok.out | with_reducible refine aG ?_ ?_ | (simp;done))))
    ·have jC:((out.length:Int)==2000)=false:=by simp;omega
     have AN : ∀ t:bM,(out++ [t]).length≤2000:=by intro t;simp;omega
     simp only [qA, ↓reduceIte]at h
     rcases HX with z1 | ⟨z1,z2⟩
     ·repeat' (first
 | simp only [go_sem,hP,hY,hZ,gA,eB,e2,e3,hlen,fI,z1,jC,eU]
 | (with_reducible refine CU (oG _) ?_)
 | (with_reducible refine bT (l:=4) (by with_unfolding_all rfl) ?_)
 | (with_reducible refine bT (l:=5) (by with_unfolding_all rfl) ?_)
 | (refine IH.to hB fin h sO (AN _) U6 (Nat.lt_succ_self _) ?_ ?_ ?_ <;> ((try simp only [go_sem,hP,hY,hZ,gA]);repeat' (first | exact Ok.out | with_reducible refine aG ?_ ?_ | omega | (simp;done)));done)
 | (with_reducible first | refine br fun hc=> ?_ | refine bt fun hc=> ?_ | refine bu (fun hc=> ?_) fun hc=> ?_) <;> (try simp only [hc,bs, ↓reduceIte]at h) <;> try simp only [hc]
 | (with_reducible refine aF hQ ?_;(try cases h);simp only [az,aB,bB,bC,go_sem,hP,hY,hZ,gA,eB,e2,e3,hlen,fI,z1,jC,eU];repeat' (first | exact Ok.out | with_reducible refine aG ?_ ?_ | (simp;done))))
     ·repeat' (first
 | simp only [go_sem,hP,hY,hZ,gA,eB,e2,e3,hlen,fI,z1,z2,jC,eU]
 | (with_reducible refine CU (oG _) ?_)
 | (with_reducible refine bT (l:=4) (by with_unfolding_all rfl) ?_)
 | (with_reducible refine bT (l:=5) (by with_unfolding_all rfl) ?_)
 | (refine IH.to hB fin h sO (AN _) U6 (Nat.lt_succ_self _) ?_ ?_ ?_ <;> ((try simp only [go_sem,hP,hY,hZ,gA]);repeat' (first | exact Ok.out | with_reducible refine aG ?_ ?_ | omega | (simp;done)));done)
 | (with_reducible first | refine br fun hc=> ?_ | refine bt fun hc=> ?_ | refine bu (fun hc=> ?_) fun hc=> ?_) <;> (try simp only [hc,bs, ↓reduceIte]at h) <;> try simp only [hc]
 | (with_reducible refine aF hQ ?_;(try cases h);simp only [az,aB,bB,bC,go_sem,hP,hY,hZ,gA,eB,e2,e3,hlen,fI,z1,z2,jC,eU];repeat' (first | exact Ok.out | with_reducible refine aG ?_ ?_ | (simp;done))))
 | cons d rest=>
  obtain⟨hY,g2,eB,g5⟩:=drop_cons j1
  have hP:j<4611686018427387904:=by omega
  cases hd:nA d
  ·simp only [qh,hd,Bool.false_eq_true, ↓reduceIte,Nat.add_zero]at j2
   subst j2
   by_cases hz:k > 1∧(c.toNat:Int)=48
   ·have z1:decide ((k:Int) > 1)=true:=by simp;omega
    have z2:((c.toNat:Int)==48)=true:=by simp [hz.2]
    rw [if_pos hz]at h
    dsimp only at h
    repeat' (first
 | simp only [go_sem,hP,hY,hZ,gA,eB,hd,e2,e3,hlen,fI,z1,z2]
 | (with_reducible refine CU (jj _ _) ?_)
 | (with_reducible refine bT (l:=4) (by with_unfolding_all rfl) ?_)
 | (with_reducible refine bT (l:=5) (by with_unfolding_all rfl) ?_)
 | (with_reducible first | refine br fun hc=> ?_ | refine bt fun hc=> ?_ | refine bu (fun hc=> ?_) fun hc=> ?_) <;> (try simp only [hc,bs, ↓reduceIte]at h) <;> try simp only [hc]
 | (with_reducible refine aF hQ ?_;(try cases h);simp only [az,aB,bB,bC,go_sem,hP,hY,hZ,gA,eB,hd,e2,e3,hlen,fI,z1,z2];repeat' (first | exact Ok.out | with_reducible refine aG ?_ ?_ | (simp;done))))
   ·have HX:decide ((k:Int) > 1)=false∨(decide ((k:Int) > 1)=true∧((c.toNat:Int)==48)=false):=by
     by_cases h1:k > 1
     ·right;exact⟨by simp;omega,by simp;intro h2;exact hz ⟨h1,h2⟩⟩
     ·left;simp;omega
    rw [if_neg hz]at h
    cases hw:uP 0 ((c::r).take k)with
    | none=>
     have HY:n4 ((c::r).take k)=(0,false):=by simp only [n4,hw]
     simp only [HY]at oG
     simp only [hw]at h
     rcases HX with z1 | ⟨z1,z2⟩
     ·repeat' (first
 | simp only [go_sem,hP,hY,hZ,gA,eB,hd,e2,e3,hlen,fI,z1]
 | (with_reducible refine CU (jj _ _) ?_)
 | (with_reducible refine CU (oG _) ?_)
 | (with_reducible refine bT (l:=4) (by with_unfolding_all rfl) ?_)
 | (with_reducible refine bT (l:=5) (by with_unfolding_all rfl) ?_)
 | (with_reducible first | refine br fun hc=> ?_ | refine bt fun hc=> ?_ | refine bu (fun hc=> ?_) fun hc=> ?_) <;> (try simp only [hc,bs, ↓reduceIte]at h) <;> try simp only [hc]
 | (with_reducible refine aF hQ ?_;(try cases h);simp only [az,aB,bB,bC,go_sem,hP,hY,hZ,gA,eB,hd,e2,e3,hlen,fI,z1];repeat' (first | exact Ok.out | with_reducible refine aG ?_ ?_ | (simp;done))))
     ·repeat' (first
 | simp only [go_sem,hP,hY,hZ,gA,eB,hd,e2,e3,hlen,fI,z1,z2]
 | (with_reducible refine CU (jj _ _) ?_)
 | (with_reducible refine CU (oG _) ?_)
 | (with_reducible refine bT (l:=4) (by with_unfolding_all rfl) ?_)
 | (with_reducible refine bT (l:=5) (by with_unfolding_all rfl) ?_)
 | (with_reducible first | refine br fun hc=> ?_ | refine bt fun hc=> ?_ | refine bu (fun hc=> ?_) fun hc=> ?_) <;> (try simp only [hc,bs, ↓reduceIte]at h) <;> try simp only [hc]
 | (with_reducible refine aF hQ ?_;(try cases h);simp only [az,aB,bB,bC,go_sem,hP,hY,hZ,gA,eB,hd,e2,e3,hlen,fI,z1,z2];repeat' (first | exact Ok.out | with_reducible refine aG ?_ ?_ | (simp;done))))
    | some v=>
     have HY:n4 ((c::r).take k)=(v,true):=by simp only [n4,hw]
     simp only [HY]at oG
     simp only [hw,hlen]at h
     by_cases qA:out.length=2000
     ·have jC:((out.length:Int)==2000)=true:=by simp [qA]
      simp only [qA, ↓reduceIte]at h
      rcases HX with z1 | ⟨z1,z2⟩
      ·repeat' (first
 | simp only [go_sem,hP,hY,hZ,gA,eB,hd,e2,e3,hlen,fI,z1,jC]
 | (with_reducible refine CU (jj _ _) ?_)
 | (with_reducible refine CU (oG _) ?_)
 | (with_reducible refine bT (l:=4) (by with_unfolding_all rfl) ?_)
 | (with_reducible refine bT (l:=5) (by with_unfolding_all rfl) ?_)
 | (with_reducible first | refine br fun hc=> ?_ | refine bt fun hc=> ?_ | refine bu (fun hc=> ?_) fun hc=> ?_) <;> (try simp only [hc,bs, ↓reduceIte]at h) <;> try simp only [hc]
 | (with_reducible refine aF hQ ?_;(try cases h);simp only [az,aB,bB,bC,go_sem,hP,hY,hZ,gA,eB,hd,e2,e3,hlen,fI,z1,jC];repeat' (first | exact Ok.out | with_reducible refine aG ?_ ?_ | (simp;done))))
      ·repeat' (first
 | simp only [go_sem,hP,hY,hZ,gA,eB,hd,e2,e3,hlen,fI,z1,z2,jC]
 | (with_reducible refine CU (jj _ _) ?_)
 | (with_reducible refine CU (oG _) ?_)
 | (with_reducible refine bT (l:=4) (by with_unfolding_all rfl) ?_)
 | (with_reducible refine bT (l:=5) (by with_unfolding_all rfl) ?_)
 | (with_reducible first | refine br fun hc=> ?_ | refine bt fun hc=> ?_ | refine bu (fun hc=> ?_) fun hc=> ?_) <;> (try simp only [hc,bs, ↓reduceIte]at h) <;> try simp only [hc]
 | (with_reducible refine aF hQ ?_;(try cases h);simp only [az,aB,bB,bC,go_sem,hP,hY,hZ,gA,eB,hd,e2,e3,hlen,fI,z1,z2,jC];repeat' (first | exact Ok.out | with_reducible refine aG ?_ ?_ | (simp;done))))
     ·have jC:((out.length:Int)==2000)=false:=by simp;omega
      have AN : ∀ t:bM,(out++ [t]).length≤2000:=by intro t;simp;omega
      simp only [qA, ↓reduceIte]at h
      rcases HX with z1 | ⟨z1,z2⟩
      ·repeat' (first
 | simp only [go_sem,hP,hY,hZ,gA,eB,hd,e2,e3,hlen,fI,z1,jC,eU]
 | (with_reducible refine CU (jj _ _) ?_)
 | (with_reducible refine CU (oG _) ?_)
 | (with_reducible refine bT (l:=4) (by with_unfolding_all rfl) ?_)
 | (with_reducible refine bT (l:=5) (by with_unfolding_all rfl) ?_)
 | (refine IH.to hB fin h sO (AN _) U6 (Nat.lt_succ_self _) ?_ ?_ ?_ <;> ((try simp only [go_sem,hP,hY,hZ,gA]);repeat' (first | exact Ok.out | with_reducible refine aG ?_ ?_ | omega | (simp;done)));done)
 | (with_reducible first | refine br fun hc=> ?_ | refine bt fun hc=> ?_ | refine bu (fun hc=> ?_) fun hc=> ?_) <;> (try simp only [hc,bs, ↓reduceIte]at h) <;> try simp only [hc]
 | (with_reducible refine aF hQ ?_;(try cases h);simp only [az,aB,bB,bC,go_sem,hP,hY,hZ,gA,eB,hd,e2,e3,hlen,fI,z1,jC,eU];repeat' (first | exact Ok.out | with_reducible refine aG ?_ ?_ | (simp;done))))
      ·repeat' (first
 | simp only [go_sem,hP,hY,hZ,gA,eB,hd,e2,e3,hlen,fI,z1,z2,jC,eU]
 | (with_reducible refine CU (jj _ _) ?_)
 | (with_reducible refine CU (oG _) ?_)
 | (with_reducible refine bT (l:=4) (by with_unfolding_all rfl) ?_)
 | (with_reducible refine bT (l:=5) (by with_unfolding_all rfl) ?_)
 | (refine IH.to hB fin h sO (AN _) U6 (Nat.lt_succ_self _) ?_ ?_ ?_ <;> ((try simp only [go_sem,hP,hY,hZ,gA]);repeat' (first | exact Ok.out | with_reducible refine aG ?_ ?_ | omega | (simp;done)));done)
 | (with_reducible refine aF hQ ?_;simp only [az,aB,bB,bC,go_sem,hP,hY,hZ,gA];repeat' (first | exact Ok.out | with_reducible refine aG ?_ ?_ | (simp;done))))
  ·exact step d rest rfl hd
theorem JJ {text:ay} (hl:text.length≤100000) {B:fj} {Q:Exit→Tm→St→Prop} {p:List bM×Int×Int} (hB:B.s=S0)
 (hQ:ig 0 0 [(2,none),(3,some (true,2))] (.tuple [.slice .shared 4 (p.1.map dX), .agg (l8 p.2)]) ⟨[],[]⟩=Q)
 {n pos:Nat} {out:List bM} (ho:out.length≤2000) (hp:pos≤text.length) (IH:q8 text B Q p (n+1)) {rest:ay} (h1:text.drop pos=rest) (h:mH (n+1) pos rest out=p) (hn:rest.length<n+1) :
 gB Tryz.prog B 152 yY (jm Tryz.prog B 152 tL Q) (nC text out pos) (oh out):=by
 cases rest with
 | nil=>exact lex_nil hl hB hQ ho hp IH h1 h
 | cons c r=>
  cases hb:tO c
  ·cases hc:((c.toNat:Int)==35)
   ·cases hL:oS c
    ·cases hD:nA c
     ·exact RC hl hB hQ ho hp IH h1 hb hc hL hD hn h
     ·exact Me hl hB hQ ho hp IH h1 hb hc hL hD hn h
    ·exact RE hl hB hQ ho hp IH h1 hb hc hL hn h
   ·exact LU hl hB hQ ho hp IH h1 hb hc hn h
  ·exact Oh hl hB hQ ho hp IH h1 hb hn h
theorem Z2 {text:ay} (hl:text.length≤100000) {B:fj} {Q:Exit→Tm→St→Prop} {p:List bM×Int×Int} (hB:B.s=S0)
 (hQ:ig 0 0 [(2,none),(3,some (true,2))] (.tuple [.slice .shared 4 (p.1.map dX), .agg (l8 p.2)]) ⟨[],[]⟩=Q) : ∀ N,q8 text B Q p N:=by
 intro N
 induction N with
 | zero=>intro n pos rest out _ _ _ _ _ h;exact absurd h (Nat.not_lt_zero _)
 | succ N ih=>
  intro n pos rest out h1 h h2 h3 h4 h5
  cases n with
  | zero=>omega
  | succ n=>
   refine nf.uI ?_
   show gB Tryz.prog B 152 yY (jm Tryz.prog B 152 tL Q) (nC text out pos) (oh out)
   exact JJ hl hB hQ h3 h4 (fun n' pos' oY cr a b c d e f=>ih n' pos' oY cr a b c d e (by omega)) h1 h h2
theorem ade (text:ay) (hl:text.length<4611686018427387904) (s:St) :
 aD Tryz.prog yP [.str text] s (.tuple [.slice .shared 4 ((nZ text).1.map dX), .agg (l8 (nZ text).2)]) s:=by
 refine aD.pure ?_ rfl (by simp [D.ok,D.bJ,GG,Tag.ok,l8]) s
 generalize h:nZ text=p
 unfold nZ at h
 unfold S0
 refine aD.go IQ rfl fun B Q hB hQ=> ?_
 have⟨hP,hY,hZ,gA⟩:=bw
 repeat' (first
 | simp only [go_sem,hP,hY,hZ,gA]
 | (with_reducible first | refine br fun hc=> ?_ | refine bt fun hc=> ?_ | refine bu (fun hc=> ?_) fun hc=> ?_) <;> (try simp only [hc,bs, ↓reduceIte]at h) <;> try simp only [hc]
 | (with_reducible refine aF hQ ?_;(try cases h);simp only [az,aB,bB,bC,go_sem,hP,hY,hZ,gA];repeat' (first | exact Ok.out | with_reducible refine aG ?_ ?_ | (simp;done))))
 refine nf.once (Sem.kb ?_)
 simp only [go_sem,hP,hY,hZ,gA]
 refine Sem.kb ?_
 simp only [go_sem,hP,hY,hZ,gA]
 refine Sem.kb ?_
 simp only [go_sem,hP,hY,hZ,gA]
 refine Sem.kb ?_
 by_cases hz:text.length > 100000
 ·have mW:decide ((text.length:Int) > 100000)=true:=by simp;omega
  rw [if_pos hz]at h
  repeat' (first
 | simp only [go_sem,hP,hY,hZ,gA,mW]
 | (with_reducible first | refine br fun hc=> ?_ | refine bt fun hc=> ?_ | refine bu (fun hc=> ?_) fun hc=> ?_) <;> (try simp only [hc,bs, ↓reduceIte]at h) <;> try simp only [hc]
 | (with_reducible refine aF hQ ?_;(try cases h);simp only [az,aB,bB,bC,go_sem,hP,hY,hZ,gA,mW];repeat' (first | exact Ok.out | with_reducible refine aG ?_ ?_ | (simp;done))))
 ·have mW:decide ((text.length:Int) > 100000)=false:=by simp;omega
  rw [if_neg hz]at h
  have mN:text.length≤100000:=by omega
  have hQ':ig 0 0 [(2,none),(3,some (true,2))] (.tuple [.slice .shared 4 (p.1.map dX), .agg (l8 p.2)]) ⟨[],[]⟩=Q:=hQ
  repeat' (first
 | simp only [go_sem,hP,hY,hZ,gA,mW]
 | (with_reducible refine aF hQ ?_;simp only [az,aB,bB,bC,go_sem,hP,hY,hZ,gA];repeat' (first | exact Ok.out | with_reducible refine aG ?_ ?_ | (simp;done))))
  refine Sem.kb ?_
  simp only [go_sem,hP,hY,hZ,gA]
  refine Sem.nT 4 4 rfl ?_
  simp only [go_sem,hP,hY,hZ,gA]
  refine Sem.re _ _ 2 1 (by rw [hB];exact lF rfl) (by rw [hB];exact lF rfl) ?_ ?_ (gN (JJ mN hB hQ' (out:= []) (pos:=0) (by simp) (Nat.zero_le _) (Z2 mN hB hQ' _) rfl h (by simp)))
  ·(simp only [go_sem,hP,hY,hZ,gA];repeat' (first | exact Ok.out | with_reducible refine aG ?_ ?_))
  ·(simp only [go_sem,hP,hY,hZ,gA];repeat' (first | exact Ok.out | with_reducible refine aG ?_ ?_))
end Go.Abs

/-! MirParse -/

namespace Go.Abs
def U7 (l:List bM):Rd:=⟨l,0,0,0,0⟩
def Cv (m:Nat) (text:ay):Option (Pg×Int×Int):=
 if(nZ text).2.1 != 0 then some (yL,(nZ text).2)
 else(Rd.program m (U7 (nZ text).1)).bind fun p=>if p.2.code != 0 then some (yL,p.2.code,p.2.pW)else(p.1.C6).bind fun q=>some (q,0,0)
def att (m:Nat) (text:ay):Option (Ex×Int×Int):=
 if(nZ text).2.1 != 0 then some (ld,(nZ text).2)
 else(Rd.whole m (U7 (nZ text).1)).bind fun x=>x.2.GQ.bind fun b=>
  if b then(x.2.bad 3).bind fun r=>if !r.good then some (ld,r.code,r.pW)else some (x.1,0,0)
  else if !x.2.good then some (ld,x.2.code,x.2.pW)else some (x.1,0,0)
end Go.Abs

/-! Prs7 -/

namespace Go.Abs
set_option maxRecDepth 8000
open Go.Proofs
theorem Pq {m:Nat} {r:Rd} {p:Pg×Rd} (h:Rd.program m r=some p) {s:St} {o:Nat} (ho:s.aA[o]? = some (b8 r)) :
 aD Tryz.prog lz [.ptr o 0] s (.agg (cd p.1)) ⟨s.aA.set o (b8 p.2),s.aC⟩:=by
 refine aD.jK ?_ rfl (fx r) (fx p.2) (by simp [D.ok,iR]) ho
 unfold Rd.program at h
 refine aD.go tM rfl fun B Q hB hQ=> ?_
 have⟨hP,hY,hZ,gA⟩:=bw
 repeat' (first
 | simp only [go_sem,hP,hY,hZ,gA]
 | (with_reducible refine aF hQ ?_;simp only [az,aB,bB,bC,go_sem,hP,hY,hZ,gA];repeat' (first | exact Ok.out | with_reducible refine aG ?_ ?_ | (simp;done))))
 rw [Option.bind_eq_some_iff]at h
 obtain⟨q,h,hr⟩:=h
 refine bj.pb 2 0 1 rfl rfl ?_
 simp only [go_sem,hP,hY,hZ,gA]
 refine cM 3 1 (bj.ind (ι:=Nat×List ay×Rd×Nat) (fun i=>Rd.globals m i.1 i.2.1 i.2.2.1=some q∧i.2.2.2=i.2.1.length) (fun i=>i.1)
  (fun i=> [(0, .ptr 0 0),(2, .ptr 1 0),(3, .ptr 2 0)]) (fun i=>⟨[b8 i.2.2.1,[.slice .full 0 [], .slice .full 0 []],[.slice (.tok 0) 1 (i.2.1.map encStr), .slice .full 0 []]],[some i.2.2.2]⟩) ?_ (m,[],r,0) ⟨h,rfl⟩)
 rintro⟨n,l,r,k⟩ ⟨h,hk⟩ IH
 dsimp only at hk;subst hk
 cases n with
 | zero=>simp only [Rd.globals]at h;cases h
 | succ n=>
  simp only [Rd.globals]at h
  repeat' (first
 | simp only [go_sem,hP,hY,hZ,gA]
 | (rw [Option.bind_eq_some_iff]at h;obtain⟨_,h1,h⟩:=h;first | (with_reducible refine CU (rH h1 (by with_unfolding_all rfl)) ?_) | (with_reducible refine CU (JI h1 (by with_unfolding_all rfl) (by with_unfolding_all rfl)) ?_))
 | (with_reducible first | refine br fun hc=> ?_ | refine bt fun hc=> ?_ | refine bu (fun hc=> ?_) fun hc=> ?_) <;> (try simp only [hc,bs, ↓reduceIte]at h) <;> try simp only [hc]
 | (with_reducible refine aF hQ ?_;exact lG)
 | (cases h;replace h:=hr;clear hr;(try simp only [bs, ↓reduceIte]at h))
 | (cases h;done))
  ·refine cM 3 1 (IH (n,_,_,_) ⟨h,rfl⟩ (Nat.lt_succ_self _))
  ·refine cM 3 0 (HW hB hQ _ h)
theorem WK {m:Nat} {text:ay} {p:Pg×Int×Int} (h:Cv m text=some p) (hl:text.length<4611686018427387904) (s:St) :
 aD Tryz.prog rV [.str text] s (.tuple [.agg (cd p.1), .agg (l8 p.2)]) s:=by
 refine aD.pure ?_ rfl (by simp [D.ok,D.bJ,iR,l8]) s
 unfold Cv at h
 have Z3:=ade text hl
 generalize nZ text=t at h Z3
 unfold S0
 refine aD.go BW rfl fun B Q hB hQ=> ?_
 have⟨hP,hY,hZ,gA⟩:=bw
 repeat' (first
 | simp only [go_sem,hP,hY,hZ,gA,U7]
 | (rw [Option.bind_eq_some_iff]at h;obtain⟨_,h1,h⟩:=h;first | (with_reducible refine CU (Pq h1 (by with_unfolding_all rfl)) ?_) | (with_reducible refine CU (R8 h1 _) ?_))
 | (with_reducible refine CU (Z3 _) ?_)
 | (with_reducible first | refine br fun hc=> ?_ | refine bt fun hc=> ?_ | refine bu (fun hc=> ?_) fun hc=> ?_) <;> (try simp only [hc,bs, ↓reduceIte]at h) <;> try simp only [hc]
 | (with_reducible refine aF hQ ?_;(try cases h);simp only [az,aB,bB,bC,go_sem,hP,hY,hZ,gA,U7];repeat' (first | exact Ok.out | with_reducible refine aG ?_ ?_ | (simp;done))))
end Go.Abs

/-! Room1 -/

namespace Go.Abs
set_option maxRecDepth 8000
open Go.Proofs
def Z4 (n k:Int):Int:=if Int.tmod n k<0 then Int.tmod n k+k else Int.tmod n k
def adf (t:ay):Nat→ay
 | 0=> []
 | n+1=>adf t n++t
def two (i:Nat):ay:= [UInt8.ofNat (48+i / 10),UInt8.ofNat (48+i % 10)]
def Z5 (ahead:ay):Nat→ay
 | 0=> []
 | n+1=>(if n=0 then Z5 ahead n else Z5 ahead n++ [44])++(ahead++ [97]++two n)
def Z6:Nat→ay
 | 0=> []
 | n+1=>Z6 n++([112,114,111,99,32,112]++two n++ [40,41,123,125])
end Go.Abs

/-! Al4 -/

namespace Go.Abs
set_option maxRecDepth 8000
open Go.Proofs
def Z7 (k:Int):List It→List Int
 | []=> []
 | i::l=>if k==0 || i.s.kind==k then i.s.id::Z7 k l else Z7 k l
def atu (l:List Int) (n:Int):Int:=match l[(Z4 n l.length).toNat]? with | some x=>x | none=>0
def U8 (id:Int):List It→Option It
 | []=>none
 | i::l=>if i.s.id==id then some i else U8 id l
def U9 (id:Int):List Pc→Option (It×ay)
 | []=>none
 | f::l=>match U8 id f.flat with | some i=>some (i,f.name) | none=>U9 id l
def it0:It:=⟨Gz,0,0,false⟩
def alD (r:Option (It×ay)):D:=match r with
 | some (i,nm)=> .tuple [.agg (iW i), .str nm, .bool true]
 | none=> .tuple [.agg (iW it0), .str [], .bool false]
def Pg.atv (p:Pg) (id:Int):Sm:=match U9 id p.procs with | some (i,_)=>i.s | none=>Gz
end Go.Abs

/-! Full1 -/

namespace Go.Abs
set_option maxRecDepth 8000
open Go.Proofs
def cJ (t:ay) (n:Int):Int:=if n > 20000 then 20001 else if(t.length:Int)≥20000 - n then 20001 else n+1+t.length
mutual
def eA:Ex→Int→Int
 | ⟨_,_,name,kids⟩,n=>me kids (cJ name n)
def me:List Ex→Int→Int
 | [],n=>n
 | x::l,n=>if n≤20000 then me l (eA x n)else n
end
theorem ll {t:ay} {n:Int} (h0:0≤n):cJ t n≤20001∧(n≤20000→n+1≤cJ t n)∧0≤cJ t n∧(cJ t n≤20000→n+1+t.length=cJ t n):=by
 unfold cJ;split
 ·omega
 ·split <;> omega
theorem tY : ∀ (m:Nat) (x:Ex),x.size≤m→∀ n:Int,0≤n→eA x n≤20001∧(n≤20000→n+1≤eA x n)∧0≤eA x n∧(eA x n≤20000→(x.size:Int)+1≤2*(eA x n - n)∧x.texts):=by
 intro m
 induction m with
 | zero=>rintro⟨op,v,name,kids⟩ h;simp only [Ex.size]at h;omega
 | succ m ih=>
  rintro⟨op,v,name,kids⟩ h n h0
  simp only [Ex.size]at h
  obtain⟨t1,t2,t3,t4⟩:=ll (t:=name) h0
  have go : ∀ (l:List Ex),Ex.aW l≤m→∀ c:Int,0≤c→c≤20001→me l c≤20001∧c≤me l c∧(me l c≤20000→(Ex.aW l:Int)≤2*(me l c - c)∧Ex.tP l):=by
   intro l
   induction l with
   | nil=>intro _ c h0 h1;simp only [me,Ex.aW];exact⟨h1,Int.le_refl _,fun _=>⟨by omega,trivial⟩⟩
   | cons y l GM=>
    intro hs c h0 h1
    simp only [Ex.aW]at hs ⊢
    simp only [me]
    split
    ·rename_i hc
     obtain⟨a1,a2,a3,a4⟩:=ih y (by omega) c h0
     obtain⟨b1,b2,b3⟩:=GM (by omega) (eA y c) a3 a1
     have:=a2 hc
     refine⟨b1,by omega,fun hw=> ?_⟩
     obtain⟨c1,c2⟩:=b3 hw
     obtain⟨d1,d2⟩:=a4 (by omega)
     exact⟨by omega,d2,c2⟩
    ·exact⟨h1,Int.le_refl _,fun hw=>by omega⟩
  obtain⟨g1,g2,g3⟩:=go kids (by omega) (cJ name n) t3 t1
  simp only [eA,Ex.size]
  refine⟨g1,fun hn=>by have:=t2 hn;omega,by omega,fun hw=> ?_⟩
  obtain⟨k1,k2⟩:=g3 hw
  have:=t4 (by omega)
  exact⟨by omega,by omega,k2⟩
theorem po (t:ay) {n:Int} (h0:0≤n) (h1:n≤20001) (s:St):aD Tryz.prog fP [.str t, .int .i64 n] s (.int .i64 (cJ t n)) s:=by
 refine aD.pure ?_ rfl rfl s
 unfold S0
 have w1:IntKind.wrap .i64 (20000 - n)=20000 - n:=cY (by omega) (by omega)
 have w2:IntKind.wrap .i64 (n+1)=n+1:=cY (by omega) (by omega)
 by_cases c:n > 20000
 ·have c1:decide (n > 20000)=true:=by simp;omega
  have e:cJ t n=20001:=by simp [cJ,c]
  rw [e]
  refine aD.go nY rfl fun B Q hB hQ=> ?_
  have⟨hP,hY,hZ,gA⟩:=bw
  repeat' (first
 | simp only [go_sem,hP,hY,hZ,gA,c1,w1,w2]
 | (with_reducible refine aF hQ ?_;simp only [az,aB,Option.some.injEq,exists_eq_left',go_sem,hP,hY,hZ,gA];repeat' (first | exact Ok.out | with_reducible refine aG ?_ ?_ | (simp;done))))
 ·have c1:decide (n > 20000)=false:=by simp;omega
  by_cases d:(t.length:Int)≥20000 - n
  ·have d1:decide ((t.length:Int)≥20000 - n)=true:=by simp;omega
   have e:cJ t n=20001:=by unfold cJ;rw [if_neg c,if_pos d]
   rw [e]
   refine aD.go nY rfl fun B Q hB hQ=> ?_
   have⟨hP,hY,hZ,gA⟩:=bw
   repeat' (first
 | simp only [go_sem,hP,hY,hZ,gA,c1,d1,w1,w2]
 | (with_reducible refine aF hQ ?_;simp only [az,aB,Option.some.injEq,exists_eq_left',go_sem,hP,hY,hZ,gA];repeat' (first | exact Ok.out | with_reducible refine aG ?_ ?_ | (simp;done))))
  ·have d1:decide ((t.length:Int)≥20000 - n)=false:=by simp;omega
   have e:cJ t n=n+1+t.length:=by unfold cJ;rw [if_neg c,if_neg d]
   have w3:IntKind.wrap .i64 (n+1+t.length)=n+1+t.length:=cY (by omega) (by omega)
   rw [e]
   refine aD.go nY rfl fun B Q hB hQ=> ?_
   have⟨hP,hY,hZ,gA⟩:=bw
   repeat' (first
 | simp only [go_sem,hP,hY,hZ,gA,c1,d1,w1,w2,w3]
 | (with_reducible refine aF hQ ?_;simp only [az,aB,Option.some.injEq,exists_eq_left',go_sem,hP,hY,hZ,gA];repeat' (first | exact Ok.out | with_reducible refine aG ?_ ?_ | (simp;done))))
theorem HZ : ∀ (m:Nat) (x:Ex),x.size≤m→∀ {n:Int},0≤n→n≤20000→∀ s:St,aD Tryz.prog jh [.agg (bo x), .int .i64 n] s (.int .i64 (eA x n)) s:=by
 intro m
 induction m with
 | zero=>rintro⟨op,v,name,kids⟩ h;simp only [Ex.size]at h;omega
 | succ m ih=>
  rintro⟨op,v,name,kids⟩ ew n h0 h1 s
  refine aD.pure ?_ (by simp [D.bJ,D.ok,fW]) rfl s
  simp only [Ex.size]at ew
  have hk : ∀ y∈kids,∀ {n:Int},0≤n→n≤20000→∀ s:St,aD Tryz.prog jh [.agg (bo y), .int .i64 n] s (.int .i64 (eA y n)) s:=fun y hy=>ih y (by have:=Ex.bW hy;omega)
  have ht:=fun s=>po name h0 (by omega) s
  obtain⟨t1,t2,t3,t4⟩:=ll (t:=name) h0
  unfold S0
  generalize h:eA ⟨op,v,name,kids⟩ n=p
  simp only [eA]at h
  refine aD.go zb rfl fun B Q hB hQ=> ?_
  have⟨hP,hY,hZ,gA⟩:=bw
  repeat' (first
 | simp only [go_sem,hP,hY,hZ,gA]
 | (with_reducible refine CU (ht _) ?_)
 | (with_reducible first | refine br fun hc=> ?_ | refine bt fun hc=> ?_ | refine bu (fun hc=> ?_) fun hc=> ?_) <;> (try simp only [hc,bs, ↓reduceIte]at h) <;> try simp only [hc]
 | (with_reducible refine aF hQ ?_;(try cases h);simp only [az,aB,bB,bC,go_sem,hP,hY,hZ,gA];repeat' (first | exact Ok.out | with_reducible refine aG ?_ ?_ | (simp;done))))
  refine cM 1 0 (bj.ind (ι:=List Ex×Nat×Int) (fun i=>kids.drop i.2.1=i.1∧me i.1 i.2.2=p∧(i.2.1:Int)≤i.2.2∧i.2.2≤20001) (fun i=>i.1.length)
   (fun i=> [(1, .int .i64 i.2.2),(2, .ptr 0 0),(5, .int .i64 (i.2.1:Int))]) (fun i=>⟨[bo ⟨op,v,name,kids⟩],[]⟩) ?_ (kids,0,cJ name n) ⟨rfl,h,t3,t1⟩)
  rintro⟨rest,k,c⟩ ⟨g1,h,g3,g4⟩ IH
  dsimp only at g1 h g3 g4
  cases rest with
  | nil=>
   have hP:=drop_nil g1
   simp only [me]at h
   repeat' (first
 | simp only [go_sem,hP,hY,hZ,gA]
 | (with_reducible first | refine br fun hc=> ?_ | refine bt fun hc=> ?_ | refine bu (fun hc=> ?_) fun hc=> ?_) <;> (try simp only [hc,bs, ↓reduceIte]at h) <;> try simp only [hc]
 | (with_reducible refine aF hQ ?_;(try cases h);simp only [az,aB,bB,bC,go_sem,hP,hY,hZ,gA];repeat' (first | exact Ok.out | with_reducible refine aG ?_ ?_ | (simp;done))))
  | cons y rest=>
   obtain⟨hY,g2,hP,g5⟩:=drop_cons g1
   simp only [me]at h
   by_cases hc:c≤20000
   ·have c1:decide (c≤20000)=true:=by simp;omega
    have hy:=fun s=>hk y (List.mem_of_getElem? hY) (n:=c) (by omega) hc s
    obtain⟨a1,a2,a3,a4⟩:=tY _ y (Nat.le_refl _) c (by omega)
    have:=a2 hc
    have w3:IntKind.wrap .i64 ((k:Int)+1)=((k+1:Nat):Int):=by rw [cY] <;> omega
    rw [if_pos hc]at h
    repeat' (first
 | simp only [go_sem,hP,hY,hZ,gA,c1,w3]
 | (with_reducible refine CU (hy _) ?_)
 | (with_reducible first | refine br fun hc=> ?_ | refine bt fun hc=> ?_ | refine bu (fun hc=> ?_) fun hc=> ?_) <;> (try simp only [hc,bs, ↓reduceIte]at h) <;> try simp only [hc]
 | (with_reducible refine aF hQ ?_;(try cases h);simp only [az,aB,bB,bC,go_sem,hP,hY,hZ,gA,c1,w3];repeat' (first | exact Ok.out | with_reducible refine aG ?_ ?_ | (simp;done))))
    refine cM 1 0 (IH (rest,k+1,eA y c) ⟨g2,h,by dsimp only;omega,a1⟩ (Nat.lt_succ_self _))
   ·have c1:decide (c≤20000)=false:=by simp;omega
    rw [if_neg hc]at h
    repeat' (first
 | simp only [go_sem,hP,hY,hZ,gA,c1]
 | (with_reducible first | refine br fun hc=> ?_ | refine bt fun hc=> ?_ | refine bu (fun hc=> ?_) fun hc=> ?_) <;> (try simp only [hc,bs, ↓reduceIte]at h) <;> try simp only [hc]
 | (with_reducible refine aF hQ ?_;(try cases h);simp only [az,aB,bB,bC,go_sem,hP,hY,hZ,gA,c1];repeat' (first | exact Ok.out | with_reducible refine aG ?_ ?_ | (simp;done))))
end Go.Abs

/-! Fits1 -/

namespace Go.Abs
set_option maxRecDepth 8000
open Go.Proofs
def dE:List ay→Int→Int
 | [],n=>n
 | t::l,n=>if n≤20000 then dE l (cJ t n)else n
def gR:List Ar→Int→Int
 | [],n=>n
 | a::l,n=>if n≤20000 then gR l (cJ a.name (eA a.x n))else n
def jF:List Pm→Int→Int
 | [],n=>n
 | a::l,n=>if n≤20000 then jF l (cJ a.name n)else n
mutual
def qt:Sm→Int→Int
 | ⟨_,_,labels,name,proc,x,_,args,aY,aT⟩,n=>fh aT (fh aY (gR args (cJ proc (cJ name (dE labels (eA x n))))))
def fh:List Sm→Int→Int
 | [],n=>n
 | s::l,n=>if n≤20000 then fh l (qt s n)else n
end
theorem Pr (s:Sm) (n:Int):qt s n=fh s.aT (fh s.aY (gR s.args (cJ s.proc (cJ s.name (dE s.labels (eA s.x n)))))):=by cases s;simp only [qt]
def rL (f:Pc) (n:Int):Int:=fh f.body (jF f.params (dE f.fin (dE f.vars (cJ f.name n))))
def mf:List Pc→Int→Int
 | [],n=>n
 | f::l,n=>if n≤20000 then mf l (rL f n)else n
def Pg.Ad (p:Pg):Int:=mf p.procs (dE p.globals 0)
theorem kh : ∀ (l:List ay) {n:Int},0≤n→n≤20001→dE l n≤20001∧n≤dE l n∧(dE l n≤20000→n+l.length≤dE l n∧∀ t∈l,t.length<4611686018427387904)
 | [],n,h0,h1=>by simp only [dE];exact⟨h1,Int.le_refl _,fun _=>⟨by simp,by simp⟩⟩
 | t::l,n,h0,h1=>by
  simp only [dE]
  split
  ·rename_i hc
   obtain⟨a1,a2,a3,a4⟩:=ll (t:=t) h0
   obtain⟨b1,b2,b3⟩:=kh l (n:=cJ t n) a3 a1
   have:=a2 hc
   refine⟨b1,by omega,fun hw=> ?_⟩
   obtain⟨c1,c2⟩:=b3 hw
   have:=a4 (by omega)
   refine⟨by simp only [List.length_cons];omega,fun s m=> ?_⟩
   rcases List.mem_cons.1 m with rfl | m
   ·omega
   ·exact c2 s m
  ·exact⟨h1,Int.le_refl _,fun hw=>by omega⟩
theorem xC : ∀ (l:List Pm) {n:Int},0≤n→n≤20001→jF l n≤20001∧n≤jF l n∧(jF l n≤20000→n+l.length≤jF l n∧∀ t∈l,t.name.length<4611686018427387904)
 | [],n,h0,h1=>by simp only [jF];exact⟨h1,Int.le_refl _,fun _=>⟨by simp,by simp⟩⟩
 | t::l,n,h0,h1=>by
  simp only [jF]
  split
  ·rename_i hc
   obtain⟨a1,a2,a3,a4⟩:=ll (t:=t.name) h0
   obtain⟨b1,b2,b3⟩:=xC l (n:=cJ t.name n) a3 a1
   have:=a2 hc
   refine⟨b1,by omega,fun hw=> ?_⟩
   obtain⟨c1,c2⟩:=b3 hw
   have:=a4 (by omega)
   refine⟨by simp only [List.length_cons];omega,fun s m=> ?_⟩
   rcases List.mem_cons.1 m with rfl | m
   ·omega
   ·exact c2 s m
  ·exact⟨h1,Int.le_refl _,fun hw=>by omega⟩
theorem xD : ∀ (l:List Ar) {n:Int},0≤n→n≤20001→gR l n≤20001∧n≤gR l n∧
 (gR l n≤20000→(Ar.aW l:Int)≤2*(gR l n - n)∧∀ a∈l,a.x.size<4611686018427387904∧a.x.texts∧a.name.length<4611686018427387904)
 | [],n,h0,h1=>by simp only [gR];exact⟨h1,Int.le_refl _,fun _=>⟨by simp [Ar.aW],by simp⟩⟩
 | a::l,n,h0,h1=>by
  simp only [gR]
  split
  ·rename_i hc
   obtain⟨a1,a2,a3,a4⟩:=tY _ a.x (Nat.le_refl _) n h0
   obtain⟨e1,e2,e3,e4⟩:=ll (t:=a.name) a3
   obtain⟨b1,b2,b3⟩:=xD l (n:=cJ a.name (eA a.x n)) e3 e1
   have:=a2 hc
   have:eA a.x n≤cJ a.name (eA a.x n):=by
    by_cases h:eA a.x n≤20000
    ·have:=e2 h;omega
    ·have:cJ a.name (eA a.x n)=20001:=by unfold cJ;rw [if_pos (by omega)]
     omega
   refine⟨b1,by omega,fun hw=> ?_⟩
   obtain⟨c1,c2⟩:=b3 hw
   have:=e4 (by omega)
   obtain⟨d1,d2⟩:=a4 (by omega)
   refine⟨by simp only [Ar.aW];omega,fun s m=> ?_⟩
   rcases List.mem_cons.1 m with rfl | m
   ·exact⟨by omega,d2,by omega⟩
   ·exact c2 s m
  ·exact⟨h1,Int.le_refl _,fun hw=>by omega⟩
theorem kp {t:ay} {n:Int} (h0:0≤n) (h1:n≤20001):n≤cJ t n∧cJ t n≤20001∧(cJ t n≤20000→n+1≤cJ t n∧t.length<4611686018427387904):=by
 obtain⟨e1,e2,e3,e4⟩:=ll (t:=t) h0
 by_cases h:n≤20000
 ·have:=e2 h
  exact⟨by omega,e1,fun hw=>⟨by omega,by have:=e4 hw;omega⟩⟩
 ·have:cJ t n=20001:=by unfold cJ;rw [if_pos (by omega)]
  exact⟨by omega,e1,fun hw=>by omega⟩
mutual
theorem EF : ∀ (s:Sm) {n:Int},0≤n→n≤20000→qt s n≤20001∧n+1≤qt s n∧(qt s n≤20000→(s.size:Int)+1≤2*(qt s n - n)∧s.uS)
 | ⟨id,kind,labels,name,proc,x,has,args,aY,aT⟩,n,h0,h1=>by
  obtain⟨a1,a2,a3,a4⟩:=tY _ x (Nat.le_refl _) n h0
  have a2:=a2 h1
  obtain⟨b1,b2,b3⟩:=kh labels a3 a1
  obtain⟨c1,c2,c3⟩:=kp (t:=name) (n:=dE labels (eA x n)) (by omega) b1
  obtain⟨d1,d2,d3⟩:=kp (t:=proc) (n:=cJ name (dE labels (eA x n))) (by omega) c2
  obtain⟨e1,e2,e3⟩:=xD args (n:=cJ proc (cJ name (dE labels (eA x n)))) (by omega) d2
  obtain⟨f1,f2,f3⟩:=qu aY (n:=gR args (cJ proc (cJ name (dE labels (eA x n))))) (by omega) e1
  obtain⟨g1,g2,g3⟩:=qu aT (n:=fh aY (gR args (cJ proc (cJ name (dE labels (eA x n)))))) (by omega) f1
  simp only [qt,Sm.size]
  refine⟨g1,by omega,fun hw=> ?_⟩
  obtain⟨g4,g5⟩:=g3 hw
  obtain⟨f4,f5⟩:=f3 (by omega)
  obtain⟨e4,e5⟩:=e3 (by omega)
  obtain⟨d4,d5⟩:=d3 (by omega)
  obtain⟨c4,c5⟩:=c3 (by omega)
  obtain⟨b4,b5⟩:=b3 (by omega)
  obtain⟨a5,a6⟩:=a4 (by omega)
  have:=Ar.da args
  refine⟨by omega, ?_⟩
  rw [Bk]
  exact⟨⟨b5,by dsimp only;omega,c5,d5,by dsimp only;omega,a6,by dsimp only;omega,e5⟩,f5,g5⟩
theorem qu : ∀ (l:List Sm) {n:Int},0≤n→n≤20001→fh l n≤20001∧n≤fh l n∧(fh l n≤20000→(Sm.aW l:Int)≤2*(fh l n - n)∧Sm.jz l)
 | [],n,h0,h1=>by simp only [fh];exact⟨h1,Int.le_refl _,fun _=>⟨by simp [Sm.aW],by simp only [Sm.jz]⟩⟩
 | s::l,n,h0,h1=>by
  simp only [fh]
  split
  ·rename_i hc
   obtain⟨a1,a2,a3⟩:=EF s h0 hc
   obtain⟨b1,b2,b3⟩:=qu l (n:=qt s n) (by omega) a1
   refine⟨b1,by omega,fun hw=> ?_⟩
   obtain⟨c1,c2⟩:=b3 hw
   obtain⟨d1,d2⟩:=a3 (by omega)
   exact⟨by simp only [Sm.aW];omega,d2,c2⟩
  ·exact⟨h1,Int.le_refl _,fun hw=>by omega⟩
end
theorem EG (f:Pc) {n:Int} (h0:0≤n) (h1:n≤20000):rL f n≤20001∧n+1≤rL f n∧(rL f n≤20000→(f.size:Int)+1≤2*(rL f n - n)∧
 (f.name.length<4611686018427387904∧(∀ t∈f.vars,t.length<4611686018427387904)∧(∀ t∈f.fin,t.length<4611686018427387904)∧∀ a∈f.params,a.name.length<4611686018427387904)∧Sm.jz f.body):=by
 obtain⟨c1,c2,c3⟩:=kp (t:=f.name) h0 (by omega:n≤20001)
 have c4:=(ll (t:=f.name) h0).2.1 h1
 obtain⟨d1,d2,d3⟩:=kh f.vars (n:=cJ f.name n) (by omega) c2
 obtain⟨e1,e2,e3⟩:=kh f.fin (n:=dE f.vars (cJ f.name n)) (by omega) d1
 obtain⟨g1,g2,g3⟩:=xC f.params (n:=dE f.fin (dE f.vars (cJ f.name n))) (by omega) e1
 obtain⟨k1,k2,k3⟩:=qu f.body (n:=jF f.params (dE f.fin (dE f.vars (cJ f.name n)))) (by omega) g1
 unfold rL Pc.size
 refine⟨k1,by omega,fun hw=> ?_⟩
 obtain⟨k4,k5⟩:=k3 hw
 obtain⟨g4,g5⟩:=g3 (by omega)
 obtain⟨e4,e5⟩:=e3 (by omega)
 obtain⟨d4,d5⟩:=d3 (by omega)
 obtain⟨_,c5⟩:=c3 (by omega)
 exact⟨by omega,⟨c5,d5,e5,g5⟩,k5⟩
theorem Cw : ∀ (l:List Pc) {n:Int},0≤n→n≤20001→mf l n≤20001∧n≤mf l n∧(mf l n≤20000→(Pc.aW l:Int)≤2*(mf l n - n)∧∀ f∈l,
 (f.name.length<4611686018427387904∧(∀ t∈f.vars,t.length<4611686018427387904)∧(∀ t∈f.fin,t.length<4611686018427387904)∧∀ a∈f.params,a.name.length<4611686018427387904)∧Sm.jz f.body)
 | [],n,h0,h1=>by simp only [mf];exact⟨h1,Int.le_refl _,fun _=>⟨by simp [Pc.aW],by simp⟩⟩
 | f::l,n,h0,h1=>by
  simp only [mf]
  split
  ·rename_i hc
   obtain⟨a1,a2,a3⟩:=EG f h0 hc
   obtain⟨b1,b2,b3⟩:=Cw l (n:=rL f n) (by omega) a1
   refine⟨b1,by omega,fun hw=> ?_⟩
   obtain⟨c1,c2⟩:=b3 hw
   obtain⟨d1,d2⟩:=a3 (by omega)
   refine⟨by simp only [Pc.aW];omega,fun s m=> ?_⟩
   rcases List.mem_cons.1 m with rfl | m
   ·exact d2
   ·exact c2 s m
  ·exact⟨h1,Int.le_refl _,fun hw=>by omega⟩
theorem Mf {p:Pg} (h:p.Ad≤20000):p.size≤40001∧p.FE:=by
 unfold Pg.Ad at h
 obtain⟨a1,a2,a3⟩:=kh p.globals (n:=0) (by omega) (by omega)
 obtain⟨b1,b2,b3⟩:=Cw p.procs (n:=dE p.globals 0) (by omega) a1
 obtain⟨c1,c2⟩:=b3 h
 obtain⟨d1,d2⟩:=a3 (by omega)
 have:p.size≤40001:=by unfold Pg.size;omega
 exact⟨this,by omega,d2,fun f m=>(c2 f m).1,fun f m=>(c2 f m).2⟩
theorem ve {l:List ay} {n:Int} (h0:0≤n) (h1:n≤20001) (s:St):aD Tryz.prog iL [.slice .shared 1 (l.map encStr), .int .i64 n] s (.int .i64 (dE l n)) s:=by
 refine aD.pure ?_ (by simp [D.bJ,D.ok,eD,Tag.ok]) rfl s
 unfold S0
 generalize h:dE l n=p
 refine aD.go x9 rfl fun B Q hB hQ=> ?_
 have⟨hP,hY,hZ,gA⟩:=bw
 repeat' (first
 | simp only [go_sem,hP,hY,hZ,gA]
 | (with_reducible refine aF hQ ?_;simp only [az,aB,Option.some.injEq,exists_eq_left',go_sem,hP,hY,hZ,gA];repeat' (first | exact Ok.out | with_reducible refine aG ?_ ?_ | (simp;done))))
 refine cM 0 0 (bj.ind (ι:=List ay×Nat×Int) (fun i=>l.drop i.2.1=i.1∧dE i.1 i.2.2=p∧(i.2.1:Int)≤i.2.2∧i.2.2≤20001) (fun i=>i.1.length)
  (fun i=> [(0, .slice .shared 1 (l.map encStr)),(1, .int .i64 i.2.2),(5, .int .i64 (i.2.1:Int))]) (fun i=>⟨[],[]⟩) ?_ (l,0,n) ⟨rfl,h,h0,h1⟩)
 rintro⟨rest,k,c⟩ ⟨g1,h,g3,g4⟩ IH
 dsimp only at g1 h g3 g4
 cases rest with
 | nil=>
  have hP:=drop_nil g1
  simp only [dE]at h
  subst h
  repeat' (first
 | simp only [go_sem,hP,hY,hZ,gA]
 | (with_reducible refine aF hQ ?_;simp only [az,aB,Option.some.injEq,exists_eq_left',go_sem,hP,hY,hZ,gA];repeat' (first | exact Ok.out | with_reducible refine aG ?_ ?_ | (simp;done))))
 | cons y rest=>
  obtain⟨hY,g2,hP,g5⟩:=drop_cons g1
  simp only [dE]at h
  by_cases hc:c≤20000
  ·have c1:decide (c≤20000)=true:=by simp;omega
   have hy:=fun s=>po y (n:=c) (by omega) g4 s
   obtain⟨a1,a2,a3,a4⟩:=ll (t:=y) (n:=c) (by omega)
   have:=a2 hc
   have w3:IntKind.wrap .i64 ((k:Int)+1)=((k+1:Nat):Int):=by rw [cY] <;> omega
   rw [if_pos hc]at h
   repeat' (first
 | simp only [go_sem,hP,hY,hZ,gA,c1,w3]
 | (with_reducible refine CU (hy _) ?_)
 | (with_reducible refine aF hQ ?_;simp only [az,aB,Option.some.injEq,exists_eq_left',go_sem,hP,hY,hZ,gA];repeat' (first | exact Ok.out | with_reducible refine aG ?_ ?_ | (simp;done))))
   refine cM 0 0 (IH (rest,k+1,cJ y c) ⟨g2,h,by dsimp only;omega,a1⟩ (Nat.lt_succ_self _))
  ·have c1:decide (c≤20000)=false:=by simp;omega
   rw [if_neg hc]at h
   subst h
   repeat' (first
 | simp only [go_sem,hP,hY,hZ,gA,c1]
 | (with_reducible refine aF hQ ?_;simp only [az,aB,Option.some.injEq,exists_eq_left',go_sem,hP,hY,hZ,gA];repeat' (first | exact Ok.out | with_reducible refine aG ?_ ?_ | (simp;done))))
theorem Ps : ∀ (m:Nat) (l:List Sm),Sm.aW l≤m→∀ {n:Int},0≤n→n≤20001→∀ s:St,aD Tryz.prog jU [.slice .shared 13 (l.map bd), .int .i64 n] s (.int .i64 (fh l n)) s:=by
 intro m
 induction m with
 | zero=>
  intro l h n h0 h1 s
  cases l with
  | nil=>
   have z:decide ((0:Int)<0)=false:=rfl
   refine aD.pure ?_ (by simp [D.bJ,D.ok,D.iZ,Tag.ok]) rfl s
   unfold S0
   simp only [fh]
   refine aD.go qD rfl fun B Q hB hQ=> ?_
   have⟨hP,hY,hZ,gA⟩:=bw
   repeat' (first
 | simp only [go_sem,hP,hY,hZ,gA,z]
 | (with_reducible refine bj.uI ?_)
 | (with_reducible refine aF hQ ?_;simp only [az,aB,Option.some.injEq,exists_eq_left',go_sem,hP,hY,hZ,gA];repeat' (first | exact Ok.out | with_reducible refine aG ?_ ?_ | (simp;done))))
  | cons s l=>simp only [Sm.aW]at h;omega
 | succ m ih=>
  intro l h n h0 h1 s
  refine aD.pure ?_ (by simp [D.bJ,D.ok,lM,Tag.ok]) rfl s
  unfold S0
  generalize hp:fh l n=p
  refine aD.go qD rfl fun B Q hB hQ=> ?_
  have⟨hP,hY,hZ,gA⟩:=bw
  repeat' (first
 | simp only [go_sem,hP,hY,hZ,gA]
 | (with_reducible refine aF hQ ?_;simp only [az,aB,Option.some.injEq,exists_eq_left',go_sem,hP,hY,hZ,gA];repeat' (first | exact Ok.out | with_reducible refine aG ?_ ?_ | (simp;done))))
  refine cM 0 0 (bj.ind (ι:=List Sm×Nat×Int) (fun i=>l.drop i.2.1=i.1∧fh i.1 i.2.2=p∧(i.2.1:Int)≤i.2.2∧i.2.2≤20001) (fun i=>i.1.length)
   (fun i=> [(0, .slice .shared 13 (l.map bd)),(1, .int .i64 i.2.2),(5, .int .i64 (i.2.1:Int))]) (fun i=>⟨[],[]⟩) ?_ (l,0,n) ⟨rfl,hp,h0,h1⟩)
  rintro⟨rest,k,c⟩ ⟨g1,hp,g3,g4⟩ IH
  dsimp only at g1 hp g3 g4
  cases rest with
  | nil=>
   have hP:=drop_nil g1
   simp only [fh]at hp
   subst hp
   repeat' (first
 | simp only [go_sem,hP,hY,hZ,gA]
 | (with_reducible refine aF hQ ?_;simp only [az,aB,Option.some.injEq,exists_eq_left',go_sem,hP,hY,hZ,gA];repeat' (first | exact Ok.out | with_reducible refine aG ?_ ?_ | (simp;done))))
  | cons y rest=>
   obtain⟨hY,g2,hP,g5⟩:=drop_cons g1
   simp only [fh]at hp
   by_cases hc:c≤20000
   ·have c1:decide (c≤20000)=true:=by simp;omega
    have ng:=List.mem_of_getElem? hY
    have ew:=Sm.bW ng
    have alg:s.aA.length≤s.aA.length∧Sm.aW y.aY<y.size∧Sm.aW y.aT<y.size:=by cases y;simp only [Sm.size];omega
    have w3:IntKind.wrap .i64 ((k:Int)+1)=((k+1:Nat):Int):=by rw [cY] <;> omega
    rw [if_pos hc]at hp
    obtain⟨a1,a2,a3,a4⟩:=tY _ y.x (Nat.le_refl _) c (by omega)
    have a2:=a2 hc
    obtain⟨b1,b2,b3⟩:=kh y.labels a3 a1
    obtain⟨c1',c2,c3⟩:=kp (t:=y.name) (n:=dE y.labels (eA y.x c)) (by omega) b1
    obtain⟨d1,d2,d3⟩:=kp (t:=y.proc) (n:=cJ y.name (dE y.labels (eA y.x c))) (by omega) c2
    have eE:=fun s=>HZ _ y.x (Nat.le_refl _) (n:=c) (by omega) hc s
    have eL:=fun s=>ve (l:=y.labels) (n:=eA y.x c) (by omega) a1 s
    have eN:=fun s=>po y.name (n:=dE y.labels (eA y.x c)) (by omega) b1 s
    have eP:=fun s=>po y.proc (n:=cJ y.name (dE y.labels (eA y.x c))) (by omega) c2 s
    obtain⟨r1,r2,r3⟩:=EF y (n:=c) (by omega) hc
    rw [Pr]at hp r1 r2
    generalize hC:cJ y.proc (cJ y.name (dE y.labels (eA y.x c)))=C at *
    obtain⟨s1,s2,s3⟩:=xD y.args (n:=C) (by omega) d2
    obtain⟨t1,t2,t3⟩:=qu y.aY (n:=gR y.args C) (by omega) s1
    have eT:=fun s=>ih y.aY (by omega) (n:=gR y.args C) (by omega) s1 s
    have eS:=fun s=>ih y.aT (by omega) (n:=fh y.aY (gR y.args C)) (by omega) t1 s
    generalize hW:gR y.args C=W at *
    repeat' (first
 | simp only [go_sem,hP,hY,hZ,gA,c1,w3]
 | (with_reducible refine CU (eE _) ?_)
 | (with_reducible refine CU (eL _) ?_)
 | (with_reducible refine CU (eN _) ?_)
 | (with_reducible refine CU (eP _) ?_)
 | (with_reducible refine aF hQ ?_;simp only [az,aB,Option.some.injEq,exists_eq_left',go_sem,hP,hY,hZ,gA];repeat' (first | exact Ok.out | with_reducible refine aG ?_ ?_ | (simp;done))))
    refine cM 1 0 (bj.ind (ι:=List Ar×Nat×Int) (fun i=>y.args.drop i.2.1=i.1∧gR i.1 i.2.2=W∧(i.2.1:Int)≤i.2.2∧i.2.2≤20001) (fun i=>i.1.length)
     (fun i=> [(0, .slice .shared 13 (l.map bd)),(1, .int .i64 i.2.2),(5, .int .i64 (k:Int)),(6, .ptr 0 0),(7, .int .i64 (i.2.1:Int))]) (fun i=>⟨[bd y],[]⟩) ?_ (y.args,0,C) ⟨rfl,hW,by dsimp only;omega,d2⟩)
    rintro⟨ars,j,e⟩ ⟨k1,hw,k3,k4⟩ Ch
    dsimp only at k1 hw k3 k4
    cases ars with
    | nil=>
     have hP:=drop_nil k1
     simp only [gR]at hw
     subst hw
     repeat' (first
 | simp only [go_sem,hP,hY,hZ,gA,w3]
 | (with_reducible refine CU (eT _) ?_)
 | (with_reducible refine CU (eS _) ?_)
 | (with_reducible refine aF hQ ?_;simp only [az,aB,Option.some.injEq,exists_eq_left',go_sem,hP,hY,hZ,gA];repeat' (first | exact Ok.out | with_reducible refine aG ?_ ?_ | (simp;done))))
     refine cM 0 0 (IH (rest,k+1,fh y.aT (fh y.aY e)) ⟨g2,hp,by dsimp only;omega,r1⟩ (Nat.lt_succ_self _))
    | cons a ars=>
     obtain⟨hY,k2,hP,k5⟩:=drop_cons k1
     simp only [gR]at hw
     by_cases he:e≤20000
     ·have e1:decide (e≤20000)=true:=by simp;omega
      have w4:IntKind.wrap .i64 ((j:Int)+1)=((j+1:Nat):Int):=by rw [cY] <;> omega
      rw [if_pos he]at hw
      obtain⟨u1,u2,u3,u4⟩:=tY _ a.x (Nat.le_refl _) e (by omega)
      have u2:=u2 he
      obtain⟨v1,v2,v3⟩:=kp (t:=a.name) (n:=eA a.x e) u3 u1
      have eX:=fun s=>HZ _ a.x (Nat.le_refl _) (n:=e) (by omega) he s
      have eM:=fun s=>po a.name (n:=eA a.x e) u3 u1 s
      repeat' (first
 | simp only [go_sem,hP,hY,hZ,gA,e1,w4]
 | (with_reducible refine CU (eX _) ?_)
 | (with_reducible refine CU (eM _) ?_)
 | (with_reducible refine aF hQ ?_;simp only [az,aB,Option.some.injEq,exists_eq_left',go_sem,hP,hY,hZ,gA];repeat' (first | exact Ok.out | with_reducible refine aG ?_ ?_ | (simp;done))))
      refine cM 1 0 (Ch (ars,j+1,cJ a.name (eA a.x e)) ⟨k2,hw,by dsimp only;omega,v2⟩ (Nat.lt_succ_self _))
     ·have e1:decide (e≤20000)=false:=by simp;omega
      rw [if_neg he]at hw
      subst hw
      repeat' (first
 | simp only [go_sem,hP,hY,hZ,gA,e1,w3]
 | (with_reducible refine CU (eT _) ?_)
 | (with_reducible refine CU (eS _) ?_)
 | (with_reducible refine aF hQ ?_;simp only [az,aB,Option.some.injEq,exists_eq_left',go_sem,hP,hY,hZ,gA];repeat' (first | exact Ok.out | with_reducible refine aG ?_ ?_ | (simp;done))))
      refine cM 0 0 (IH (rest,k+1,fh y.aT (fh y.aY e)) ⟨g2,hp,by dsimp only;omega,r1⟩ (Nat.lt_succ_self _))
   ·have c1:decide (c≤20000)=false:=by simp;omega
    rw [if_neg hc]at hp
    subst hp
    repeat' (first
 | simp only [go_sem,hP,hY,hZ,gA,c1]
 | (with_reducible refine aF hQ ?_;simp only [az,aB,Option.some.injEq,exists_eq_left',go_sem,hP,hY,hZ,gA];repeat' (first | exact Ok.out | with_reducible refine aG ?_ ?_ | (simp;done))))
end Go.Abs

/-! Fits2 -/

namespace Go.Abs
set_option maxRecDepth 8000
open Go.Proofs
theorem aad (p:Pg) (s:St):aD Tryz.prog vw [.agg (cd p)] s (.bool (decide (p.Ad≤20000))) s:=by
 refine aD.pure ?_ (by simp only [D.bJ,D.ok,iR];rfl) rfl s
 unfold S0
 generalize hp:p.Ad=W
 unfold Pg.Ad at hp
 obtain⟨a1,a2,a3⟩:=kh p.globals (n:=0) (by omega) (by omega)
 have eG:=fun s=>ve (l:=p.globals) (n:=0) (by omega) (by omega) s
 refine aD.go EZ rfl fun B Q hB hQ=> ?_
 have⟨hP,hY,hZ,gA⟩:=bw
 repeat' (first
 | simp only [go_sem,hP,hY,hZ,gA]
 | (with_reducible refine CU (eG _) ?_)
 | (with_reducible refine aF hQ ?_;simp only [az,aB,bB,bC,go_sem,hP,hY,hZ,gA];repeat' (first | exact Ok.out | with_reducible refine aG ?_ ?_ | (simp;done))))
 refine cM 1 0 (bj.ind (ι:=List Pc×Nat×Int) (fun i=>p.procs.drop i.2.1=i.1∧mf i.1 i.2.2=W∧(i.2.1:Int)≤i.2.2∧i.2.2≤20001) (fun i=>i.1.length)
  (fun i=> [(1, .ptr 0 0),(3, .int .i64 i.2.2),(4, .int .i64 (i.2.1:Int))]) (fun i=>⟨[cd p],[]⟩) ?_ (p.procs,0,dE p.globals 0) ⟨rfl,hp,a2,a1⟩)
 rintro⟨rest,k,c⟩ ⟨g1,hp,g3,g4⟩ IH
 dsimp only at g1 hp g3 g4
 cases rest with
 | nil=>
  have hP:=drop_nil g1
  simp only [mf]at hp
  subst hp
  repeat' (first
 | simp only [go_sem,hP,hY,hZ,gA]
 | (with_reducible refine aF hQ ?_;simp only [az,aB,bB,bC,go_sem,hP,hY,hZ,gA];repeat' (first | exact Ok.out | with_reducible refine aG ?_ ?_ | (simp;done))))
 | cons f rest=>
  obtain⟨hY,g2,hP,g5⟩:=drop_cons g1
  simp only [mf]at hp
  by_cases hc:c≤20000
  ·have c1:decide (c≤20000)=true:=by simp;omega
   have w3:IntKind.wrap .i64 ((k:Int)+1)=((k+1:Nat):Int):=by rw [cY] <;> omega
   rw [if_pos hc]at hp
   obtain⟨r1,r2,r3⟩:=EG f (n:=c) (by omega) hc
   unfold rL at hp r1 r2
   obtain⟨c1',c2,c3⟩:=kp (t:=f.name) (n:=c) (by omega) g4
   obtain⟨d1,d2,d3⟩:=kh f.vars (n:=cJ f.name c) (by omega) c2
   obtain⟨e1,e2,e3⟩:=kh f.fin (n:=dE f.vars (cJ f.name c)) (by omega) d1
   have eN:=fun s=>po f.name (n:=c) (by omega) g4 s
   have eV:=fun s=>ve (l:=f.vars) (n:=cJ f.name c) (by omega) c2 s
   have eF:=fun s=>ve (l:=f.fin) (n:=dE f.vars (cJ f.name c)) (by omega) d1 s
   generalize hC:dE f.fin (dE f.vars (cJ f.name c))=C at *
   obtain⟨s1,s2,s3⟩:=xC f.params (n:=C) (by omega) e1
   have eT:=fun s=>Ps _ f.body (Nat.le_refl _) (n:=jF f.params C) (by omega) s1 s
   generalize hM:jF f.params C=M at *
   repeat' (first
 | simp only [go_sem,hP,hY,hZ,gA,c1,w3]
 | (with_reducible refine CU (eN _) ?_)
 | (with_reducible refine CU (eV _) ?_)
 | (with_reducible refine CU (eF _) ?_)
 | (with_reducible refine aF hQ ?_;simp only [az,aB,bB,bC,go_sem,hP,hY,hZ,gA];repeat' (first | exact Ok.out | with_reducible refine aG ?_ ?_ | (simp;done))))
   refine cM 2 0 (bj.ind (ι:=List Pm×Nat×Int) (fun i=>f.params.drop i.2.1=i.1∧jF i.1 i.2.2=M∧(i.2.1:Int)≤i.2.2∧i.2.2≤20001) (fun i=>i.1.length)
    (fun i=> [(1, .ptr 0 0),(3, .int .i64 i.2.2),(4, .int .i64 (k:Int)),(5, .ptr 1 0),(6, .int .i64 (i.2.1:Int))]) (fun i=>⟨[cd p,cA f],[]⟩) ?_ (f.params,0,C) ⟨rfl,hM,by dsimp only;omega,e1⟩)
   rintro⟨ms,j,e⟩ ⟨k1,hw,k3,k4⟩ Ch
   dsimp only at k1 hw k3 k4
   cases ms with
   | nil=>
    have hP:=drop_nil k1
    simp only [jF]at hw
    subst hw
    repeat' (first
 | simp only [go_sem,hP,hY,hZ,gA,w3]
 | (with_reducible refine CU (eT _) ?_)
 | (with_reducible refine aF hQ ?_;simp only [az,aB,bB,bC,go_sem,hP,hY,hZ,gA];repeat' (first | exact Ok.out | with_reducible refine aG ?_ ?_ | (simp;done))))
    refine cM 1 0 (IH (rest,k+1,fh f.body e) ⟨g2,hp,by dsimp only;omega,r1⟩ (Nat.lt_succ_self _))
   | cons a ms=>
    obtain⟨hY,k2,hP,k5⟩:=drop_cons k1
    simp only [jF]at hw
    by_cases he:e≤20000
    ·have e1:decide (e≤20000)=true:=by simp;omega
     have w4:IntKind.wrap .i64 ((j:Int)+1)=((j+1:Nat):Int):=by rw [cY] <;> omega
     rw [if_pos he]at hw
     obtain⟨v1,v2,v3⟩:=kp (t:=a.name) (n:=e) (by omega) k4
     have v4:=(ll (t:=a.name) (n:=e) (by omega)).2.1 he
     have eM:=fun s=>po a.name (n:=e) (by omega) k4 s
     repeat' (first
 | simp only [go_sem,hP,hY,hZ,gA,e1,w4]
 | (with_reducible refine CU (eM _) ?_)
 | (with_reducible refine aF hQ ?_;simp only [az,aB,bB,bC,go_sem,hP,hY,hZ,gA];repeat' (first | exact Ok.out | with_reducible refine aG ?_ ?_ | (simp;done))))
     refine cM 2 0 (Ch (ms,j+1,cJ a.name e) ⟨k2,hw,by dsimp only;omega,v2⟩ (Nat.lt_succ_self _))
    ·have e1:decide (e≤20000)=false:=by simp;omega
     rw [if_neg he]at hw
     subst hw
     repeat' (first
 | simp only [go_sem,hP,hY,hZ,gA,e1,w3]
 | (with_reducible refine CU (eT _) ?_)
 | (with_reducible first | refine br fun hc=> ?_ | refine bt fun hc=> ?_ | refine bu (fun hc=> ?_) fun hc=> ?_) <;> (try simp only [hc,bs, ↓reduceIte]at h) <;> try simp only [hc]
 | (with_reducible refine aF hQ ?_;simp only [az,aB,bB,bC,go_sem,hP,hY,hZ,gA,e1,w3];repeat' (first | exact Ok.out | with_reducible refine aG ?_ ?_ | (simp;done))))
     refine cM 1 0 (IH (rest,k+1,fh f.body e) ⟨g2,hp,by dsimp only;omega,r1⟩ (Nat.lt_succ_self _))
  ·have c1:decide (c≤20000)=false:=by simp;omega
   rw [if_neg hc]at hp
   subst hp
   repeat' (first
 | simp only [go_sem,hP,hY,hZ,gA,c1]
 | (with_reducible first | refine br fun hc=> ?_ | refine bt fun hc=> ?_ | refine bu (fun hc=> ?_) fun hc=> ?_) <;> (try simp only [hc,bs, ↓reduceIte]at h) <;> try simp only [hc]
 | (with_reducible refine aF hQ ?_;simp only [az,aB,bB,bC,go_sem,hP,hY,hZ,gA,c1];repeat' (first | exact Ok.out | with_reducible refine aG ?_ ?_ | (simp;done))))
end Go.Abs

/-! MirEq -/

namespace Go.Abs
def aae:List ay→List ay→Bool
 | [],_=>true
 | _::_,[]=>true
 | x::l,y::l'=>if !(x==y)then false else aae l l'
def Va (l l':List ay):Bool:=if(l.length:Int) != (l'.length:Int)then false else aae l l'
def Ar.oD:List Ar→List Ar→Bool
 | [],_=>true
 | _::_,[]=>true
 | a::l,b::l'=>if !(a.ref==b.ref) || !(a.name==b.name) || !(Ex.beq a.x b.x)then false else Ar.oD l l'
mutual
def Sm.beq:Sm→Sm→Bool
 | ⟨id,kind,labels,name,proc,x,has,args,aY,aT⟩,⟨id',adg,Ae,LM,sV,x',alI,BN,aaf,aag⟩=>
  if id != id' || kind != adg || !(name==LM) || !(proc==sV) || !(has==alI) || !(Va labels Ae) || !(Ex.beq x x') || (args.length:Int) != (BN.length:Int)then false
  else if !(Ar.oD args BN)then false
  else if(if(aY.length:Int) != (aaf.length:Int)then false else Sm.oD aY aaf)then(if(aT.length:Int) != (aag.length:Int)then false else Sm.oD aT aag)else false
def Sm.oD:List Sm→List Sm→Bool
 | [],_=>true
 | _::_,[]=>true
 | s::l,t::l'=>if !(Sm.beq s t)then false else Sm.oD l l'
end
def Sm.aah (l l':List Sm):Bool:=if(l.length:Int) != (l'.length:Int)then false else Sm.oD l l'
def Pm.oD:List Pm→List Pm→Bool
 | [],_=>true
 | _::_,[]=>true
 | a::l,b::l'=>if !((a.name==b.name) && (a.ref==b.ref))then false else Pm.oD l l'
def Pc.oD:List Pc→List Pc→Bool
 | [],_=>true
 | _::_,[]=>true
 | f::l,g::l'=>
  if !(f.name==g.name) || (f.params.length:Int) != (g.params.length:Int) || !(Va f.vars g.vars) || !(Va f.fin g.fin) || !(Sm.aah f.body g.body)then false
  else if !(Pm.oD f.params g.params)then false else Pc.oD l l'
def Pg.beq (p q:Pg):Bool:=if !(Va p.globals q.globals) || (p.procs.length:Int) != (q.procs.length:Int)then false else Pc.oD p.procs q.procs
end Go.Abs

/-! RefEq -/

namespace Go.Abs
set_option maxRecDepth 8000
open Go.Proofs
abbrev al1 (N:Nat):Prop:=∀ s t:Sm,s.size<N→∀ st:St,aD Tryz.prog GR [.agg (bd s), .agg (bd t)] st (.bool (Sm.beq s t)) st
abbrev atw (N:Nat):Prop:=∀ l l':List Sm,Sm.aW l<N→∀ st:St,aD Tryz.prog C7 [.slice .shared 13 (l.map bd), .slice .shared 13 (l'.map bd)] st (.bool (Sm.aah l l')) st
end Go.Abs

/-! RefEq2 -/

namespace Go.Abs
set_option maxRecDepth 8000
open Go.Proofs
def vf (n:Int):Ex:=⟨1,n,[],[]⟩
def jB (s:ay):Ex:=⟨2,0,s,[]⟩
def rf (op:Int) (a b:Ex):Ex:=⟨op,0,[],[a,b]⟩
theorem adh (n:Int) (s:St):aD Tryz.prog p7 [.int .i64 n] s (.agg (bo (vf n))) s:=by
 refine aD.pure ?_ rfl (by simp [D.ok,fW]) s
 unfold S0
 refine aD.go G9 rfl fun B Q hB hQ=> ?_
 have⟨hP,hY,hZ,gA⟩:=bw
 repeat' (first
 | simp only [go_sem,hP,hY,hZ,gA,vf]
 | (with_reducible first | refine br fun hc=> ?_ | refine bt fun hc=> ?_ | refine bu (fun hc=> ?_) fun hc=> ?_) <;> (try simp only [hc,bs, ↓reduceIte]at h) <;> try simp only [hc]
 | (with_reducible refine aF hQ ?_;simp only [az,aB,bB,bC,go_sem,hP,hY,hZ,gA,vf];repeat' (first | exact Ok.out | with_reducible refine aG ?_ ?_ | (simp;done))))
theorem Mg (t:ay) (s:St):aD Tryz.prog km [.str t] s (.agg (bo (jB t))) s:=by
 refine aD.pure ?_ rfl (by simp [D.ok,fW]) s
 unfold S0
 refine aD.go E5 rfl fun B Q hB hQ=> ?_
 have⟨hP,hY,hZ,gA⟩:=bw
 repeat' (first
 | simp only [go_sem,hP,hY,hZ,gA,jB]
 | (with_reducible first | refine br fun hc=> ?_ | refine bt fun hc=> ?_ | refine bu (fun hc=> ?_) fun hc=> ?_) <;> (try simp only [hc,bs, ↓reduceIte]at h) <;> try simp only [hc]
 | (with_reducible refine aF hQ ?_;simp only [az,aB,bB,bC,go_sem,hP,hY,hZ,gA,jB];repeat' (first | exact Ok.out | with_reducible refine aG ?_ ?_ | (simp;done))))
theorem Pu (op:Int) (a b:Ex) (s:St):aD Tryz.prog sL [.int .i64 op, .agg (bo a), .agg (bo b)] s (.agg (bo (rf op a b))) s:=by
 refine aD.pure ?_ (by simp [D.bJ,D.ok,fW]) (by simp [D.ok,fW]) s
 unfold S0
 refine aD.go Ha rfl fun B Q hB hQ=> ?_
 have⟨hP,hY,hZ,gA⟩:=bw
 repeat' (first
 | simp only [go_sem,hP,hY,hZ,gA,rf]
 | (with_reducible first | refine br fun hc=> ?_ | refine bt fun hc=> ?_ | refine bu (fun hc=> ?_) fun hc=> ?_) <;> (try simp only [hc,bs, ↓reduceIte]at h) <;> try simp only [hc]
 | (with_reducible refine aF hQ ?_;simp only [az,aB,bB,bC,go_sem,hP,hY,hZ,gA,rf];repeat' (first | exact Ok.out | with_reducible refine aG ?_ ?_ | (simp;done))))
def source:ay:= [103,108,111,98,97,108,32,103,59,10,112,114,111,99,32,109,97,105,110,40,41,32,123,10,32,118,97,114,32,118,59,10,32,118,32,61,32,50,59,10,32,103,32,61,32,112,40,51,44,32,114,101,102,32,118,41,59,10,32,112,114,105,110,116,32,118,59,10,32,112,114,105,110,116,32,103,59,10,125,10,112,114,111,99,32,112,40,120,44,32,114,101,102,32,121,41,32,123,10,32,121,32,61,32,121,32,43,32,120,59,10,32,105,102,32,40,121,32,62,32,57,41,32,123,10,32,32,103,111,116,111,32,101,59,10,32,125,10,32,114,101,116,117,114,110,32,121,59,10,101,58,32,125,10]
theorem SE (s:St):aD Tryz.prog rW [] s (.str source) s:=by
 refine aD.pure ?_ rfl rfl s
 unfold S0
 refine aD.go BX rfl fun B Q hB hQ=> ?_
 have⟨hP,hY,hZ,gA⟩:=bw
 repeat' (first
 | simp only [go_sem,hP,hY,hZ,gA,source]
 | (with_reducible first | refine br fun hc=> ?_ | refine bt fun hc=> ?_ | refine bu (fun hc=> ?_) fun hc=> ?_) <;> (try simp only [hc,bs, ↓reduceIte]at h) <;> try simp only [hc]
 | (with_reducible refine aF hQ ?_;(try cases h);simp only [az,aB,bB,bC,go_sem,hP,hY,hZ,gA,source];try exact pV)
 | (cases h;done))
def ow:Pg:=⟨[[103]],[
 ⟨[109,97,105,110],[],[[118]],[
  ⟨1,1,[],[118],[],vf 2,false,[],[],[]⟩,
  ⟨2,4,[],[103],[112],ld,false,[⟨false,[],vf 3⟩,⟨true,[118],ld⟩],[],[]⟩,
  ⟨3,3,[],[],[],jB [118],false,[],[],[]⟩,
  ⟨4,3,[],[],[],jB [103],false,[],[],[]⟩],[]⟩,
 ⟨[112],[⟨[120],false⟩,⟨[121],true⟩],[],[
  ⟨5,1,[],[121],[],rf 8 (jB [121]) (jB [120]),false,[],[],[]⟩,
  ⟨6,5,[],[],[],rf 12 (jB [121]) (vf 9),false,[],[⟨7,10,[],[101],[],ld,false,[],[],[]⟩],[]⟩,
  ⟨8,9,[],[],[],jB [121],true,[],[],[]⟩],[[101]]⟩]⟩
theorem aai (s:St):aD Tryz.prog vz [] s (.agg (cd ow)) s:=by
 refine aD.pure ?_ rfl (by simp [D.ok,iR]) s
 unfold S0
 refine aD.go E2 rfl fun B Q hB hQ=> ?_
 have⟨hP,hY,hZ,gA⟩:=bw
 repeat' (first
 | simp only [go_sem,hP,hY,hZ,gA,ow]
 | (with_reducible refine CU (adh _ _) ?_)
 | (with_reducible refine CU (Mg _ _) ?_)
 | (with_reducible refine CU (Pu _ _ _ _) ?_)
 | (with_reducible refine aF hQ ?_;simp only [az,aB,Option.some.injEq,exists_eq_left',go_sem,hP,hY,hZ,gA];repeat' (first | exact Ok.out | with_reducible refine aG ?_ ?_ | (simp;done))))
 repeat' (first | exact Ok.out | with_reducible refine Wk.agg ?_ | with_reducible refine Wk.rows ?_ | with_reducible refine Wk.slice ?_ | with_reducible refine gT.cons ?_ ?_ | with_reducible refine lS.cons ?_ ?_)
end Go.Abs

/-! LawTo1 -/

namespace Go.Abs
open Go.Proofs
def Pg.asF (p:Pg) (n:Int):ay:=match p.procs[(Z4 n p.procs.length).toNat]? with | some f=>f.name | none=> []
end Go.Abs

/-! AlP -/

namespace Go.Abs
open Go.Proofs
theorem aaj:yL.jX:=⟨uY (by decide +kernel) (by decide +kernel),by decide +kernel⟩
end Go.Abs

/-! LawAl2 -/

namespace Go.Abs
open Go.Proofs
end Go.Abs

/-! SwP -/

namespace Go.Abs
section
variable {a b:ay}
theorem Cx {x y:ay} : (ct a b x==ct a b y)=(x==y):=by
 rw [Bool.eq_iff_iff,beq_iff_eq,beq_iff_eq]
 exact⟨fun h=>by rw [← gE a b x,h,gE],fun h=>by rw [h]⟩
theorem wP {x:ay} {l:List ay} : ct a b x∈l.map (ct a b)↔x∈l:=by
 rw [List.mem_map]
 exact⟨fun⟨y,hy,e⟩=>by rw [← gE a b x, ← e,gE];exact hy,fun h=>⟨x,h,rfl⟩⟩
theorem pw (l:List ay) (x:ay):dW (l.map (ct a b)) (ct a b x)=dW l x:=by
 rw [Bool.eq_iff_iff,fH,fH,wP]
theorem JK : ∀ (l pre:List ay),wG (pre.map (ct a b)) (l.map (ct a b))=wG pre l
 | [],_=>rfl
 | x::l,pre=>by
  have:=JK l (pre++ [x])
  simp only [List.map_append,List.map_cons,List.map_nil]at this
  simp only [List.map_cons,wG,pw,this]
theorem zA (l:List ay):fM (l.map (ct a b))=fM l:=JK l []
mutual
theorem H0 : ∀ (x:Ex) (out:List ay),Ex.kf (out.map (ct a b)) (x.swap a b)=(x.kf out).map (ct a b)
 | ⟨op,n,name,kids⟩,out=>by
  simp only [Ex.swap,Ex.kf,pw]
  rw [← EH kids]
  split <;> simp
theorem EH : ∀ (l:List Ex) (out:List ay),Ex.jo (out.map (ct a b)) (Ex.cP a b l)=(Ex.jo out l).map (ct a b)
 | [],out=>rfl
 | x::l,out=>by simp only [Ex.cP,Ex.jo,H0 x out,EH l]
end
theorem SF (proc up next loop:Int) : ∀ s:Sm,(s.swap a b).pH proc up next loop=(s.pH proc up next loop).map fun m=> {m with s:=m.s.swap a b}
 | s=>by
  have key : ∀ n:Nat,(∀ (s:Sm) (proc up next loop:Int),s.pre.length≤n→(s.swap a b).pH proc up next loop=(s.pH proc up next loop).map fun m=> {m with s:=m.s.swap a b})∧
   (∀ (l:List Sm) (proc up next loop:Int),(Sm.dh l).length≤n→Sm.iz proc up next loop (Sm.cP a b l)=(Sm.iz proc up next loop l).map fun m=> {m with s:=m.s.swap a b}):=by
   intro n
   induction n with
   | zero=>
    refine⟨fun s _ _ _ _ h=> ?_,fun l _ _ _ _ h=> ?_⟩
    ·rw [Sm.wD]at h;simp at h
    ·cases l with
     | nil=>rfl
     | cons s l=>simp only [Sm.dh]at h;rw [Sm.wD]at h;simp at h
   | succ n ih=>
    have h1 : ∀ (s:Sm) (proc up next loop:Int),s.pre.length≤n+1→(s.swap a b).pH proc up next loop=(s.pH proc up next loop).map fun m=> {m with s:=m.s.swap a b}:=by
     rintro⟨id,kind,labels,name,pc,x,has,args,aY,aT⟩ proc up next loop h
     rw [Sm.wD]at h
     simp only [List.length_cons,List.length_append]at h
     have e1:=ih.2 aY proc id (if kind==6 then id else next) (if kind==6 then id else loop) (by omega)
     have e2:=ih.2 aT proc id (if kind==6 then id else next) (if kind==6 then id else loop) (by omega)
     simp only [Sm.swap,Sm.pH,e1,e2,List.map_cons,List.map_append]
    refine⟨h1,fun l=> ?_⟩
    induction l with
    | nil=>intro _ _ _ _ _;rfl
    | cons s l GM=>
     intro proc up next loop h
     simp only [Sm.dh,List.length_append]at h
     have e:qn (Sm.cP a b l) next=qn l next:=by
      cases l with
      | nil=>rfl
      | cons t l=>obtain⟨_,_,_,_,_,_,_,_,_,_⟩:=t;rfl
     simp only [Sm.cP,Sm.iz,e,h1 s proc up (qn l next) loop (by omega),GM proc up next loop (by omega),List.map_append]
  exact(key s.pre.length).1 s proc up next loop (Nat.le_refl _)
mutual
theorem SG : ∀ s:Sm,(s.swap a b).pre=s.pre.map (Sm.swap a b)
 | ⟨id,kind,labels,name,proc,x,has,args,aY,aT⟩=>by
  simp only [Sm.swap,Sm.pre,List.map_cons,List.map_append,ln aY,ln aT]
theorem ln : ∀ l:List Sm,Sm.dh (Sm.cP a b l)=(Sm.dh l).map (Sm.swap a b)
 | []=>rfl
 | s::l=>by simp only [Sm.cP,Sm.dh,List.map_append,SG s,ln l]
end
theorem EI (proc up next loop:Int) : ∀ l:List Sm,Sm.iz proc up next loop (Sm.cP a b l)=(Sm.iz proc up next loop l).map fun m=> {m with s:=m.s.swap a b}
 | []=>rfl
 | s::l=>by
  have e:qn (Sm.cP a b l) next=qn l next:=by
   cases l with
   | nil=>rfl
   | cons t l=>obtain⟨_,_,_,_,_,_,_,_,_,_⟩:=t;rfl
  simp only [Sm.cP,Sm.iz,e,SF,EI proc up next loop l,List.map_append]
theorem Mh (f:Pc):(f.swap a b).xy=f.xy.map fun q=>(q.1.swap a b,q.2):=by
 unfold Pc.xy
 show(Sm.iz 0 0 (-1) 0 (Sm.cP a b f.body)).map Im.pair=_
 rw [EI,List.map_map,List.map_map]
 rfl
theorem DC (s:Sm):(s.swap a b).id=s.id:=by cases s;rfl
theorem n8 (s:Sm):(s.swap a b).kind=s.kind:=by cases s;rfl
theorem zB (s:Sm):(s.swap a b).name=ct a b s.name:=by cases s;rfl
theorem vg (s:Sm):(s.swap a b).proc=ct a b s.proc:=by cases s;rfl
theorem zC (s:Sm):(s.swap a b).args=s.args.map (Ar.swap a b):=by cases s;rfl
theorem AW (s:Sm):(s.swap a b).labels=s.labels.map (ct a b):=by cases s;rfl
theorem aak (s:Sm):(s.swap a b).x=s.x.swap a b:=by cases s;rfl
theorem zD : ∀ (l seen:List ay),hO (seen.map (ct a b)) (l.map (ct a b))=((hO seen l).1.map (ct a b),(hO seen l).2)
 | [],seen=>rfl
 | n::l,seen=>by
  have:=zD l (seen++ [n])
  simp only [List.map_append,List.map_cons,List.map_nil]at this
  simp only [List.map_cons,hO,pw,this]
  split <;> rfl
theorem Pv (tW:List ay) (v:Sm) (lp:Int):u7 (tW.map (ct a b)) (v.swap a b) lp=u7 tW v lp:=by
 unfold u7
 rw [n8,zB,pw]
theorem EJ (tW fin:List ay) : ∀ (l:List (Sm×Int)) (seen:List ay),qo (tW.map (ct a b)) (fin.map (ct a b)) (seen.map (ct a b)) (l.map fun q=>(q.1.swap a b,q.2))=qo tW fin seen l
 | [],seen=>by simp only [List.map_nil,qo,zD]
 | (v,lp)::l,seen=>by
  simp only [List.map_cons,qo,AW,zD,Pv,DC,EJ tW fin l]
theorem zE : ∀ l:List Sm,gq (l.map (Sm.swap a b))=(gq l).map (ct a b)
 | []=>rfl
 | v::l=>by simp only [List.map_cons,gq,AW,zE l,List.map_append]
theorem H2 (f:Pc):(f.swap a b).labels=f.labels.map (ct a b):=by
 unfold Pc.labels
 show gq (Sm.dh (Sm.cP a b f.body))++f.fin.map (ct a b)=_
 rw [ln,zE,List.map_append]
theorem Cy : ∀ l:List Pc,sU (l.map (Pc.swap a b))=sU l
 | []=>rfl
 | f::l=>by
  have:=EJ (a:=a) (b:=b) f.labels f.fin f.xy []
  simp only [List.map_nil]at this
  simp only [List.map_cons,sU,H2,Mh,Cy l]
  show(match qo (f.labels.map (ct a b)) (f.fin.map (ct a b)) [] (f.xy.map fun q=>(q.1.swap a b,q.2))with | some id=>some id | none=>sU l)=_
  rw [this] <;> rfl
theorem EK (n:ay) : ∀ l:List Pc,iX (ct a b n) (l.map (Pc.swap a b))=(iX n l).map (Pc.swap a b)
 | []=>rfl
 | f::l=>by
  simp only [List.map_cons,iX,EK n l]
  show(if ct a b f.name==ct a b n then _ else _)=_
  rw [Cx]
  split <;> rfl
theorem px (p:Pg) (n:ay):(p.swap a b).find (ct a b n)=(p.find n).map (Pc.swap a b):=EK n p.procs
theorem aal (p:Pg):(p.swap a b).pn=p.pn.map (ct a b):=by
 simp only [Pg.pn,Pg.swap,List.map_map];rfl
theorem WL (f:Pc):(f.swap a b).own=f.own.map (ct a b):=by
 simp only [Pc.own,Pc.zm,Pc.swap,List.map_append,List.map_map];rfl
theorem EL (vars globals:List ay) (n:ay) : ∀ l:List Pm,sP (vars.map (ct a b)) (globals.map (ct a b)) (ct a b n) (l.map (Pm.swap a b))=sP vars globals n l
 | []=>by simp only [List.map_nil,sP,pw]
 | m::l=>by
  simp only [List.map_cons,sP,EL vars globals n l]
  simp only [Pm.swap,Cx] <;> rfl
theorem Mi (p:Pg) (f:Pc) (n:ay):(f.swap a b).jS (p.swap a b) (ct a b n)=f.jS p n:=EL _ _ _ _
theorem EM : ∀ (l:List Pm) (m:List Ar),uZ (l.map (Pm.swap a b)) (m.map (Ar.swap a b))=uZ l m
 | [],_=>rfl
 | x::l,[]=>rfl
 | x::l,y::m=>by simp only [List.map_cons,uZ,EM l m];rfl
theorem SH (p:Pg) (v:Sm):(v.swap a b).oj (p.swap a b)=v.oj p:=by
 unfold Sm.oj
 rw [n8,vg,px,zC]
 cases p.find v.proc with
 | none=>rfl
 | some q=>
  show(v.kind==4 && xn (q.params.map (Pm.swap a b)) (v.args.map (Ar.swap a b)))=_
  unfold xn
  rw [List.length_map,List.length_map,EM]
theorem EN (p:Pg):(p.swap a b).pre=p.pre.map (Sm.swap a b):=by
 simp only [Pg.pre,Pg.swap,List.map_map,List.map_flatten]
 congr 1
 apply List.map_congr_left
 intro f _
 show Sm.dh (Sm.cP a b f.body)=_
 rw [ln];rfl
theorem JL (p:Pg) : ∀ l:List Sm,AT (p.swap a b) (l.map (Sm.swap a b))=(AT p l).map (Sm.swap a b)
 | []=>rfl
 | v::l=>by
  simp only [List.map_cons,AT,n8,SH,JL p l]
  split <;> rfl
theorem Cz (c:Int) (r:Option Sm):n7 c (r.map (Sm.swap a b))=n7 c r:=by
 cases r with
 | none=>rfl
 | some v=>show(c,(v.swap a b).id)=_;rw [DC];rfl
theorem xE {T T':List ay} (hT : ∀ x,dW T' (ct a b x)=dW T x) (nm:ay) : ∀ (l:List Ar) (seen:List ay),ky (ct a b nm) T' (seen.map (ct a b)) (l.map (Ar.swap a b))=ky nm T seen l
 | [],_=>rfl
 | r::l,seen=>by
  have:=xE hT nm l (seen++ [r.name])
  simp only [List.map_append,List.map_cons,List.map_nil]at this
  simp only [List.map_cons,ky,xE hT nm l seen]
  show(if r.ref then(if dW (seen.map (ct a b)) (ct a b r.name) || (ct a b r.name==ct a b nm || dW T' (ct a b r.name))then false else ky (ct a b nm) T' (seen.map (ct a b)++ [ct a b r.name]) (l.map (Ar.swap a b)))else _)=_
  rw [pw,Cx,hT,this]
end
section
variable {a b:ay} (ha:isName a=true) (hb:isName b=true)
include ha hb
theorem EO (x:Ex):(x.swap a b).names=x.names.map (ct a b):=by
 unfold Ex.names
 rw [HI ha hb]
 split
 ·exact H0 x []
 ·rfl
theorem xF : ∀ (l:List Ar) (out:List ay),Ar.said (out.map (ct a b)) (l.map (Ar.swap a b))=(Ar.said out l).map (ct a b)
 | [],_=>rfl
 | r::l,out=>by
  have h1:=xF l (out++ [r.name]++r.x.names)
  have h2:=xF l (out++r.x.names)
  simp only [List.map_append,List.map_cons,List.map_nil]at h1 h2
  simp only [List.map_cons,Ar.said,Ar.swap,EO ha hb]
  split
  ·exact h1
  ·exact h2
theorem H3 (v:Sm):(v.swap a b).said=v.said.map (ct a b):=by
 unfold Sm.said
 rw [zC, ← xF ha hb,aak,EO ha hb,List.map_append]
 congr 2
 unfold Sm.ra
 rw [n8,zB]
 have:(ct a b v.name != [])=(v.name != []):=by simp only [bne,s5 ha hb]
 rw [this]
 split <;> rfl
theorem Pw (h1:a≠eQ) (h2:b≠eQ) (p:Pg) (f:Pc) (procs:List ay) (v:Sm):(v.swap a b).known (p.swap a b) (f.swap a b) (procs.map (ct a b))=v.known p f procs:=by
 have hm:ct a b eQ=eQ:=by simp only [ct,beq_iff_eq];rw [if_neg (Ne.symm h1),if_neg (Ne.symm h2)]
 unfold Sm.known
 rw [H3 ha hb,n8,vg,pw,List.any_map]
 have e1:(ct a b v.proc != eQ)=(v.proc != eQ):=by
  simp only [bne]
  rw [show(ct a b v.proc==eQ)=(v.proc==eQ)from by rw [← hm,Cx,hm]]
 rw [e1]
 congr 2
 apply congrArg
 funext n
 show(((f.swap a b).jS (p.swap a b) (ct a b n))==0)=_
 rw [Mi]
theorem rM (h1:a≠eQ) (h2:b≠eQ) (p:Pg):(p.swap a b).scope=p.scope:=by
 have hm:ct a b eQ=eQ:=by simp only [ct,beq_iff_eq];rw [if_neg (Ne.symm h1),if_neg (Ne.symm h2)]
 have alJ : ∀ (f:Pc) (l:List Sm),sh (p.swap a b) (f.swap a b) (p.pn.map (ct a b)) (l.map (Sm.swap a b))=(sh p f p.pn l).map (Sm.swap a b):=by
  intro f l
  induction l with
  | nil=>rfl
  | cons v l ih=>
   simp only [List.map_cons,sh,Pw ha hb h1 h2,ih]
   split <;> rfl
 have hG : ∀ l:List Pc,oW (p.swap a b) (p.pn.map (ct a b)) (l.map (Pc.swap a b))=oW p p.pn l:=by
  intro l
  induction l with
  | nil=>rfl
  | cons f l ih=>
   simp only [List.map_cons,oW,WL,ih]
   rw [show(p.swap a b).globals=p.globals.map (ct a b)from rfl, ← List.map_append,zA,
    show Sm.dh (f.swap a b).body=(Sm.dh f.body).map (Sm.swap a b)from ln f.body,alJ]
   cases sh p f p.pn (Sm.dh f.body)with
   | none=>rfl
   | some v=>simp only [Option.map_some,DC]
 unfold Pg.scope
 rw [HL ha hb,aal,zA,show(p.swap a b).globals=p.globals.map (ct a b)from rfl,zA,
  show(p.swap a b).procs=p.procs.map (Pc.swap a b)from rfl,hG]
 have hn:(p.swap a b).ql=p.ql:=by
  unfold Pg.ql
  have:=px (a:=a) (b:=b) p eQ
  rw [hm]at this
  rw [this]
  cases p.find eQ with
  | none=>rfl
  | some m=>
   show decide (((m.params.map (Pm.swap a b)).length:Int) > 0)=_
   rw [List.length_map]
 rw [hn]
theorem EP (h1:a≠eQ) (h2:b≠eQ) (p:Pg):(p.swap a b).arity=p.arity:=by
 unfold Pg.arity
 rw [rM ha hb h1 h2,EN,JL,Cz]
theorem SI (h1:a≠eQ) (h2:b≠eQ) (p:Pg):(p.swap a b).jump=p.jump:=by
 unfold Pg.jump
 rw [rM ha hb h1 h2,show(p.swap a b).procs=p.procs.map (Pc.swap a b)from rfl,Cy]
theorem zF : ∀ l:List Sm,rb (l.map (Sm.swap a b))=(rb l).map (ct a b)
 | []=>rfl
 | v::l=>by simp only [List.map_cons,rb,H3 ha hb,zF l,List.map_append]
omit ha hb in
theorem AX : ∀ l:List Sm,ix (l.map (Sm.swap a b))=(ix l).map (ct a b)
 | []=>rfl
 | v::l=>by
  simp only [List.map_cons,ix,n8,vg,AX l]
  split <;> rfl
omit ha hb in
theorem Mj (p:Pg) (x y:ay):ct a b y∈mX (p.swap a b) (ct a b x)↔y∈mX p x:=by
 unfold mX
 rw [px]
 cases p.find x with
 | none=>simp
 | some f=>
  show ct a b y∈iJ (ix (Sm.dh (Sm.cP a b f.body)))↔y∈iJ (ix (Sm.dh f.body))
  rw [(iw _).2,(iw _).2,ln,AX,wP]
omit ha hb in
theorem zG (h1:a≠eQ) (h2:b≠eQ) {p:Pg} (jb:(p.scope.1==0)=true) {nm:ay} {f:Pc} (hf:p.find nm=some f) : ∀ x∈(p.swap a b).work (ct a b nm),ct a b x∈p.work nm:=by
 refine Cu (S:=fun x=>ct a b x∈p.work nm) (fun x hx y hy=> ?_) _ _ _ fun x hx=> ?_
 ·have e1:y=ct a b (ct a b y):=(gE a b y).symm
  have e2:x=ct a b (ct a b x):=(gE a b x).symm
  rw [e1,e2,Mj]at hy
  exact AV jb _ _ _ (xp hf) (by omega) (fun j x hj=>absurd hj (Nat.not_lt_zero _)) _ hx _ hy
 ·have:x=ct a b nm:=by simpa using hx
  rw [this,gE]
  exact HM p _ _ _ (by simp)
theorem H4 (h1:a≠eQ) (h2:b≠eQ) {p:Pg} (jb:(p.scope.1==0)=true) {nm:ay} {f:Pc} (hf:p.find nm=some f) (x:ay):ct a b x∈(p.swap a b).work (ct a b nm)↔x∈p.work nm:=by
 constructor
 ·intro h
  have:=zG h1 h2 jb hf _ h
  rwa [gE]at this
 ·intro h
  have alK:((p.swap a b).scope.1==0)=true:=by rw [rM ha hb h1 h2];exact jb
  have:=zG h1 h2 (p:=p.swap a b) alK (nm:=ct a b nm) (f:=f.swap a b) (by rw [px,hf];rfl) x (by
   rw [(Ma a b p).2,gE];exact h)
  exact this
theorem Px (h1:a≠eQ) (h2:b≠eQ) {p:Pg} (nm x:ay):dW ((p.swap a b).kH (ct a b nm)) (ct a b x)=dW (p.kH nm) x:=by
 have FF:(p.swap a b).qm (ct a b nm)=(p.qm nm).map (Pc.swap a b):=by
  unfold Pg.qm
  rw [rM ha hb h1 h2,px]
  split <;> rfl
 cases hs:p.qm nm with
 | none=>
  rw [hs]at FF
  unfold Pg.kH
  rw [hs,FF]
  rfl
 | some f=>
  rw [hs]at FF
  obtain⟨jb,hf⟩:=zu hs
  rw [Bool.eq_iff_iff,fH,fH,ED FF,ED hs]
  refine and_congr ⟨fun⟨n,hn,hx⟩=>⟨ct a b n, ?_, ?_⟩,fun⟨n,hn,hx⟩=>⟨ct a b n,(H4 ha hb h1 h2 jb hf n).2 hn, ?_⟩⟩ wP
  ·rw [← H4 ha hb h1 h2 jb hf,gE];exact hn
  ·have hbo:jY (p.swap a b) n=(jY p (ct a b n)).map (Sm.swap a b):=by
    unfold jY
    have:=px (a:=a) (b:=b) p (ct a b n)
    rw [gE]at this
    rw [this]
    cases p.find (ct a b n)with
    | none=>rfl
    | some q=>exact ln q.body
   rw [hbo,zF ha hb,wP]at hx
   exact hx
  ·have hbo:jY (p.swap a b) (ct a b n)=(jY p n).map (Sm.swap a b):=by
    unfold jY
    rw [px]
    cases p.find n with
    | none=>rfl
    | some q=>exact ln q.body
   rw [hbo,zF ha hb,wP]
   exact hx
theorem Py (h1:a≠eQ) (h2:b≠eQ) (p:Pg):(p.swap a b).alias=p.alias:=by
 have xU : ∀ l:List Sm,EE (p.swap a b) (l.map (Sm.swap a b))=(EE p l).map (Sm.swap a b):=by
  intro l
  induction l with
  | nil=>rfl
  | cons v l ih=>
   have e:(v.swap a b).wN (p.swap a b)=v.wN p:=by
    unfold Sm.wN
    rw [zB,vg,zC]
    exact xE (Px ha hb h1 h2 v.proc) v.name v.args []
   simp only [List.map_cons,EE,n8,e,ih]
   split <;> rfl
 unfold Pg.alias
 rw [EP ha hb h1 h2,EN,xU,Cz]
end
def Pg.check (p:Pg):Int×Int:=if p.scope.1==0 then(if p.arity.1==0 then(if p.jump.1==0 then p.alias else p.jump)else p.arity)else p.scope
theorem Pz {a b:ay} (ha:isName a=true) (hb:isName b=true) (h1:a≠eQ) (h2:b≠eQ) (p:Pg):(p.swap a b).check=p.check:=by
 unfold Pg.check
 rw [rM ha hb h1 h2,EP ha hb h1 h2,SI ha hb h1 h2,Py ha hb h1 h2]
end Go.Abs

/-! Ck1 -/

namespace Go.Abs
set_option maxRecDepth 8000
open Go.Proofs
theorem WM : ∀ n,n<1000000000→∀ l:List Sm,Sm.aW l<n→aD Tryz.prog jv [.slice .shared 13 (l.map bd)] S0 (.int .i64 (Sm.dY l:Int)) S0:=by
 intro n
 induction n with
 | zero=>intro _ l h;omega
 | succ n ih=>
 intro hn l hv
 have hl:=Sm.da l
 have hk : ∀ y∈l,(∀ s,aD Tryz.prog jv [.slice .shared 13 (y.aY.map bd)] s (.int .i64 (Sm.dY y.aY:Int)) s)∧(∀ s,aD Tryz.prog jv [.slice .shared 13 (y.aT.map bd)] s (.int .i64 (Sm.dY y.aT:Int)) s)∧
  y.gV=1+Sm.dY y.aY+Sm.dY y.aT:=fun y hy=>by
  have h1:=Sm.bW hy
  have ew:Sm.aW y.aY<y.size∧Sm.aW y.aT<y.size∧y.gV=1+Sm.dY y.aY+Sm.dY y.aT:=by
   obtain⟨_,_,_,_,_,_,_,_,_,_⟩:=y
   simp only [Sm.size];exact⟨by omega,by omega,rfl⟩
  exact⟨fun s=>(ih (by omega) y.aY (by omega)).pure (by simp only [D.bJ,D.ok,Tag.ok,lM];rfl) rfl s,fun s=>(ih (by omega) y.aT (by omega)).pure (by simp only [D.bJ,D.ok,Tag.ok,lM];rfl) rfl s,ew.2.2⟩
 have pR:=kl l
 unfold S0
 refine aD.go Dd rfl fun B Q hB hQ=> ?_
 have⟨hP,hY,hZ,gA⟩:=bw
 repeat' (first
 | simp only [go_sem,hP,hY,hZ,gA]
 | (with_reducible refine aF hQ ?_;simp only [az,aB,Option.some.injEq,exists_eq_left',go_sem,hP,hY,hZ,gA];repeat' (first | exact Ok.out | with_reducible refine aG ?_ ?_ | (simp;done))))
 refine cM 0 0 (bj.ind (ι:=List Sm×Nat×Nat) (fun i=>l.drop i.2.1=i.1∧i.2.2+Sm.dY i.1=Sm.dY l+i.1.length) (fun i=>i.1.length)
  (fun i=> [(0, .slice .shared 13 (l.map bd)),(3, .int .i64 (i.2.2:Int)),(7, .slice .shared 13 (l.map bd)),(8, .int .i64 (l.length:Int)),(9, .int .i64 (i.2.1:Int))]) (fun i=>⟨[],[]⟩) ?_ (l,0,l.length) ⟨rfl,Nat.add_comm _ _⟩)
 rintro⟨rest,k,c⟩ ⟨g1,g2⟩ IH
 dsimp only at g1 g2
 cases rest with
 | nil=>
  have hP:=drop_nil g1
  simp only [Sm.dY,Nat.add_zero,List.length_nil]at g2
  subst g2
  repeat' (first
 | simp only [go_sem,hP,hY,hZ,gA]
 | (with_reducible refine aF hQ ?_;simp only [az,aB,Option.some.injEq,exists_eq_left',go_sem,hP,hY,hZ,gA];repeat' (first | exact Ok.out | with_reducible refine aG ?_ ?_ | (simp;done))))
 | cons y rest=>
  obtain⟨hY,g3,hP,g4⟩:=drop_cons g1
  obtain⟨hy1,hy2,hy3⟩:=hk y (List.mem_of_getElem? hY)
  simp only [Sm.dY,List.length_cons]at g2
  have MN:=Sm.bW (List.mem_of_getElem? hY)
  have I9:rest.length≤l.length:=by have:=congrArg List.length g1;simp only [List.length_drop,List.length_cons]at this;omega
  have w1:IntKind.wrap .i64 ((k:Int)+1)=((k+1:Nat):Int):=by rw [cY] <;> omega
  have w2:IntKind.wrap .i64 ((Sm.dY y.aY:Int)+(Sm.dY y.aT:Int))=((Sm.dY y.aY+Sm.dY y.aT:Nat):Int):=by rw [cY] <;> omega
  have w3:IntKind.wrap .i64 ((c:Int)+((Sm.dY y.aY+Sm.dY y.aT:Nat):Int))=((c+(Sm.dY y.aY+Sm.dY y.aT):Nat):Int):=by rw [cY] <;> omega
  repeat' (first
 | simp only [go_sem,hP,hY,hZ,gA,w1,w2,w3]
 | (with_reducible refine CU (hy1 _) ?_)
 | (with_reducible refine CU (hy2 _) ?_)
 | (with_reducible refine aF hQ ?_;simp only [az,aB,Option.some.injEq,exists_eq_left',go_sem,hP,hY,hZ,gA];repeat' (first | exact Ok.out | with_reducible refine aG ?_ ?_ | (simp;done))))
  refine cM 0 0 (IH (rest,k+1,c+(Sm.dY y.aY+Sm.dY y.aT)) ⟨g3,by dsimp only;omega⟩ (Nat.lt_succ_self _))
theorem WN {l:List Sm} (h:Sm.aW l+1<1000000000) (s:St):aD Tryz.prog jv [.slice .shared 13 (l.map bd)] s (.int .i64 (Sm.dY l:Int)) s:=
 (WM _ h l (Nat.lt_succ_self _)).pure (by simp only [D.bJ,D.ok,Tag.ok,lM];rfl) rfl s
def Pc.xG:List Pc→Nat
 | []=>0
 | f::l=>Sm.dY f.body+Pc.xG l
theorem JM : ∀ l:List Pc,Pc.xG l≤Pc.aW l
 | []=>Nat.le_refl _
 | f::l=>by
  have:=JM l;have:=kl f.body
  simp only [Pc.xG,Pc.aW,Pc.size];omega
theorem WO {p:Pg} (h:p.size+1<1000000000) (s:St):aD Tryz.prog tv [.agg (cd p)] s (.int .i64 (Pc.xG p.procs:Int)) s:=by
 refine aD.pure ?_ (by simp [D.bJ,D.ok,iR]) rfl s
 have hs:Pc.aW p.procs+1<1000000000:=by simp only [Pg.size]at h;omega
 have hl:=Pc.da p.procs
 have hcp:=JM p.procs
 unfold S0
 refine aD.go Da rfl fun B Q hB hQ=> ?_
 have⟨hP,hY,hZ,gA⟩:=bw
 repeat' (first
 | simp only [go_sem,hP,hY,hZ,gA]
 | (with_reducible refine aF hQ ?_;simp only [az,aB,Option.some.injEq,exists_eq_left',go_sem,hP,hY,hZ,gA];repeat' (first | exact Ok.out | with_reducible refine aG ?_ ?_ | (simp;done))))
 refine cM 1 0 (bj.ind (ι:=List Pc×Nat×Nat) (fun i=>p.procs.drop i.2.1=i.1∧i.2.2+Pc.xG i.1=Pc.xG p.procs) (fun i=>i.1.length)
  (fun i=> [(1, .ptr 0 0),(3, .int .i64 (i.2.2:Int)),(7, .slice .shared 5 (p.procs.map cA)),(8, .int .i64 (p.procs.length:Int)),(9, .int .i64 (i.2.1:Int))]) (fun i=>⟨[cd p],[]⟩) ?_ (p.procs,0,0) ⟨rfl,Nat.zero_add _⟩)
 rintro⟨rest,k,c⟩ ⟨g1,g2⟩ IH
 dsimp only at g1 g2
 cases rest with
 | nil=>
  have hP:=drop_nil g1
  simp only [Pc.xG,Nat.add_zero]at g2
  subst g2
  repeat' (first
 | simp only [go_sem,hP,hY,hZ,gA]
 | (with_reducible refine aF hQ ?_;simp only [az,aB,Option.some.injEq,exists_eq_left',go_sem,hP,hY,hZ,gA];repeat' (first | exact Ok.out | with_reducible refine aG ?_ ?_ | (simp;done))))
 | cons f rest=>
  obtain⟨hY,g3,hP,g4⟩:=drop_cons g1
  have hsf:=Pc.bW (List.mem_of_getElem? hY)
  simp only [Pc.size]at hsf
  have hc:=fun s=>WN (l:=f.body) (by omega) s
  simp only [Pc.xG]at g2
  have w1:IntKind.wrap .i64 ((k:Int)+1)=((k+1:Nat):Int):=by rw [cY] <;> omega
  have w2:IntKind.wrap .i64 ((c:Int)+(Sm.dY f.body:Int))=((c+Sm.dY f.body:Nat):Int):=by rw [cY] <;> omega
  repeat' (first
 | simp only [go_sem,hP,hY,hZ,gA,w1,w2]
 | (with_reducible refine CU (hc _) ?_)
 | (with_reducible refine aF hQ ?_;simp only [az,aB,Option.some.injEq,exists_eq_left',go_sem,hP,hY,hZ,gA];repeat' (first | exact Ok.out | with_reducible refine aG ?_ ?_ | (simp;done))))
  refine cM 1 0 (IH (rest,k+1,c+Sm.dY f.body) ⟨g3,by dsimp only;omega⟩ (Nat.lt_succ_self _))
theorem SJ {p:Pg} (h:p.may=false):p.scope=(1,0):=by unfold Pg.scope;rw [h];rfl
theorem zH {p:Pg} (h:p.jX) (s:St):aD Tryz.prog ly [.agg (cd p)] s (.agg [.int .i64 p.check.1, .int .i64 p.check.2]) s:=by
 refine aD.pure ?_ (by simp [D.bJ,D.ok,iR]) rfl s
 have h1:=fun s=>Hk h.Sb s
 rw [z7]at h1
 have h2:=fun s=>tV h s
 have h3:=fun s=>Ht h s
 have h4:=fun s=>Sv h s
 have h5:=fun s=>Pk h s
 obtain⟨R,hR⟩ : ∃ R,p.check=R:=⟨_,rfl⟩
 rw [hR]
 unfold Pg.check at hR
 unfold S0
 rcases Bool.eq_false_or_eq_true p.may with b0 | b0
 case inr=>
  have e:((1:Int)==0)=false:=rfl
  rw [SJ b0]at hR
  simp only [e,Bool.false_eq_true,if_false]at hR
  subst hR
  refine aD.go mU rfl fun B Q hB hQ=> ?_
  have⟨hP,hY,hZ,gA⟩:=bw
  repeat' (first
 | simp only [go_sem,hP,hY,hZ,gA,b0,Bool.not_false]
 | (with_reducible refine CU (h1 _) ?_)
 | (with_reducible refine aF hQ ?_;simp only [az,aB,Option.some.injEq,exists_eq_left',go_sem,hP,hY,hZ,gA];repeat' (first | exact Ok.out | with_reducible refine aG ?_ ?_ | (simp;done))))
 rcases Bool.eq_false_or_eq_true (p.scope.1==0)with b1 | b1
 case inr=>
  simp only [b1,Bool.false_eq_true,if_false]at hR
  subst hR
  refine aD.go mU rfl fun B Q hB hQ=> ?_
  have⟨hP,hY,hZ,gA⟩:=bw
  repeat' (first
 | simp only [go_sem,hP,hY,hZ,gA,b0,b1,Bool.not_true]
 | (with_reducible refine CU (h1 _) ?_)
 | (with_reducible refine CU (h2 _) ?_)
 | (with_reducible refine aF hQ ?_;simp only [az,aB,Option.some.injEq,exists_eq_left',go_sem,hP,hY,hZ,gA];repeat' (first | exact Ok.out | with_reducible refine aG ?_ ?_ | (simp;done))))
 simp only [b1,if_true]at hR
 rcases Bool.eq_false_or_eq_true (p.arity.1==0)with b2 | b2
 case inr=>
  simp only [b2,Bool.false_eq_true,if_false]at hR
  subst hR
  refine aD.go mU rfl fun B Q hB hQ=> ?_
  have⟨hP,hY,hZ,gA⟩:=bw
  repeat' (first
 | simp only [go_sem,hP,hY,hZ,gA,b0,b1,b2,Bool.not_true]
 | (with_reducible refine CU (h1 _) ?_)
 | (with_reducible refine CU (h2 _) ?_)
 | (with_reducible refine CU (h3 _) ?_)
 | (with_reducible refine aF hQ ?_;simp only [az,aB,Option.some.injEq,exists_eq_left',go_sem,hP,hY,hZ,gA];repeat' (first | exact Ok.out | with_reducible refine aG ?_ ?_ | (simp;done))))
 simp only [b2,if_true]at hR
 rcases Bool.eq_false_or_eq_true (p.jump.1==0)with b3 | b3
 case inr=>
  simp only [b3,Bool.false_eq_true,if_false]at hR
  subst hR
  refine aD.go mU rfl fun B Q hB hQ=> ?_
  have⟨hP,hY,hZ,gA⟩:=bw
  repeat' (first
 | simp only [go_sem,hP,hY,hZ,gA,b0,b1,b2,b3,Bool.not_true]
 | (with_reducible refine CU (h1 _) ?_)
 | (with_reducible refine CU (h2 _) ?_)
 | (with_reducible refine CU (h3 _) ?_)
 | (with_reducible refine CU (h4 _) ?_)
 | (with_reducible refine aF hQ ?_;simp only [az,aB,Option.some.injEq,exists_eq_left',go_sem,hP,hY,hZ,gA];repeat' (first | exact Ok.out | with_reducible refine aG ?_ ?_ | (simp;done))))
 simp only [b3,if_true]at hR
 subst hR
 refine aD.go mU rfl fun B Q hB hQ=> ?_
 have⟨hP,hY,hZ,gA⟩:=bw
 repeat' (first
 | simp only [go_sem,hP,hY,hZ,gA,b0,b1,b2,b3,Bool.not_true]
 | (with_reducible refine CU (h1 _) ?_)
 | (with_reducible refine CU (h2 _) ?_)
 | (with_reducible refine CU (h3 _) ?_)
 | (with_reducible refine CU (h4 _) ?_)
 | (with_reducible refine CU (h5 _) ?_)
 | (with_reducible refine aF hQ ?_;simp only [az,aB,Option.some.injEq,exists_eq_left',go_sem,hP,hY,hZ,gA];repeat' (first | exact Ok.out | with_reducible refine aG ?_ ?_ | (simp;done))))
theorem aan {p:Pg} (h:p.jX) (s:St):aD Tryz.prog vx [.agg (cd p)] s (.bool (p.check.1==0)) s:=by
 refine aD.pure ?_ (by simp [D.bJ,D.ok,iR]) rfl s
 have h1:=fun s=>zH h s
 unfold S0
 refine aD.go E0 rfl fun B Q hB hQ=> ?_
 have⟨hP,hY,hZ,gA⟩:=bw
 repeat' (first
 | simp only [go_sem,hP,hY,hZ,gA]
 | (with_reducible refine CU (h1 _) ?_)
 | (with_reducible refine aF hQ ?_;simp only [az,aB,Option.some.injEq,exists_eq_left',go_sem,hP,hY,hZ,gA];repeat' (first | exact Ok.out | with_reducible refine aG ?_ ?_ | (simp;done))))
end Go.Abs

/-! Tot -/

namespace Go.Abs
def Tt {α:Type} (o:Option α) (Q:α→Prop):Prop:=∃ a,o=some a∧Q a
structure Rd.Ok (r:Rd):Prop where
 k : ∀ t∈r.l,0≤t.kind∧t.kind≤4
 lt:r.i<r.l.length
 len:r.l.length≤2001
 last : ∀ t,r.l[r.l.length - 1]? = some t→t.kind=0
 n1:r.n≤201
structure Rd.To (r r':Rd):Prop where
 ok:r'.Ok
 l:r'.l=r.l
 i:r.i≤r'.i
 g:r'.good=true→r.good=true
 s:r.good=false→r'=r
structure Rd.ToE (r r':Rd):Prop where
 to:r.To r'
 n:r'.n=r.n
def ExT (r:Rd) (p:Ex×Rd):Prop:=r.ToE p.2∧(p.2.good=true→p.1.size+3+4*r.i≤4*p.2.i)
end Go.Abs

/-! Tot2 -/

namespace Go.Abs
def StT (r:Rd) (p:Sm×Rd):Prop:=r.ToE p.2∧(p.2.good=true→p.1.size+1+8*r.i≤8*p.2.i)
end Go.Abs

/-! Tot3 -/

namespace Go.Abs
structure StQ (r r':Rd):Prop where
 to:r.To r'
 n:r'.good=true→r'.n≤200
def atx (r:Rd) (p:(List Sm×List ay)×Rd):Prop:=StQ r p.2∧(p.2.good=true→Sm.aW p.1.1+p.1.2.length+8*r.i≤8*p.2.i)
def aty (t:bM):Prop:=1≤t.kind∧t.kind≤4
def Vb:Nat:=20000
end Go.Abs

/-! Parsed2 -/

namespace Go.Abs
open Go.Proofs
theorem H5:Cv Vb source=some (ow,0,0):=by kernel_rfl
theorem Mk:source.length<4611686018427387904:=by simp [source]
theorem ER:Nat.ble (ow.size+1) 1000=true:=by kernel_rfl
theorem Ml:ow.size<1073741824:=Nat.lt_of_lt_of_le (Nat.le_of_ble_eq_true ER) (Nat.le_of_ble_eq_true rfl)
end Go.Abs

/-! RefLex2 -/

namespace Go.Abs
set_option maxRecDepth 8000
open Go.Proofs
def alL:Int→ay→Int
 | n,[]=>n
 | n,c::r=>alL (n*10+((c.toNat:Int) - 48)) r
def alM:bM:=⟨0,[],0,0⟩
def auf (x:bM ⊕ Int):bM×Int:=
 match x with
 | .inl t=>(t,0)
 | .inr e=>(alM,e)
end Go.Abs

/-! RefLex3 -/

namespace Go.Abs
set_option maxRecDepth 8000
open Go.Proofs
end Go.Abs

/-! Ref4 -/

namespace Go.Abs
set_option maxRecDepth 8000
open Go.Proofs
def aug (s:ay):ay:=s.take (min s.length 100100)
end Go.Abs

/-! Ref5 -/

namespace Go.Abs
set_option maxRecDepth 8000
open Go.Proofs
def Rd.asL (n:Nat) (l:List ay) (fk:Int) (r:Rd):Option (List ay×Rd):=
 (r.take [44]).bind fun q=>if !q.1 then(q.2.want [59]).bind fun r=>some (l,r)else Rd.names n l fk q.2
def aao (s:ay):Bool:=s == [105,102] || s == [119,104,105,108,101] || s == [98,114,101,97,107] || s == [99,111,110,116,105,110,117,101] || s == [114,101,116,117,114,110] || s == [103,111,116,111] || s == [114,101,97,100] || s == [112,114,105,110,116]
def Rd.Vc (m:Nat) (r:Rd):Option (List Ar×Rd):=
 (r.want [40]).bind fun r=>(r.take [41]).bind fun q=>
  if q.1 then some ([],q.2)
  else if q.2.good then(Rd.w9 m m [] q.2).bind fun x=>(x.2.want [41]).bind fun r=>some (x.1,r)
  else some ([],q.2)
end Go.Abs

/-! Ref6 -/

namespace Go.Abs
set_option maxRecDepth 8000
open Go.Proofs
def Rd.qj (m:Nat) (name:ay) (r:Rd):Option (Sm×Rd):=
 (r.isO [40]).bind fun b=>
  if b then(Rd.Vc m r).bind fun q=>some (⟨0,4,[],[],name,ld,false,q.1,[],[]⟩,q.2)
  else(r.want [61]).bind fun r=>(r.ahead [40]).bind fun b=>
   if b then(r.name true).bind fun y=>(Rd.Vc m y.2).bind fun q=>some (⟨0,4,[],name,y.1,ld,false,q.1,[],[]⟩,q.2)
   else(Rd.whole m r).bind fun y=>some (⟨0,1,[],name,[],y.1,false,[],[],[]⟩,y.2)
def auh (p:Sm×Rd):Option (Sm×Rd):=(p.2.want [59]).bind fun r=>some (p.1,r)
end Go.Abs

/-! MirNum -/

namespace Go.Abs
def Pt {α:Type} (o:Option α) (Q:α→Prop):Prop:=∀ a,o=some a→Q a
structure alN (a b:Rd):Prop where
 l:b.l=a.l
 n:b.n=a.n
 g:b.good=true→a.good=true
def SmK (r0:Rd) (p:Sm×Rd):Prop:=alN r0 p.2∧p.1.aY = []∧p.1.aT = []
structure Num (r:Rd) (k:Nat) (r':Rd):Prop where
 l:r'.l=r.l
 g:r'.good=true→r.good=true
 n:r'.good=true→k=r'.n
 le:r'.good=true→r.n≤200→r'.n≤200
end Go.Abs

/-! Ref7 -/

namespace Go.Abs
set_option maxRecDepth 8000
open Go.Proofs
def cN (r:Rd):D:=match r.good with | true=> .int .i64 r.n | false=> .junk
instance (r:Rd):Cell (cN r):=by
 unfold cN
 cases r.good
 ·exact inferInstanceAs (Cell .junk)
 ·exact inferInstanceAs (Cell (.int .i64 _))
def stD (g:Bool) (v:Sm):List D:=match g with | true=>bd v | false=> [.junk, .junk, .junk, .junk, .junk, .junk, .junk, .junk, .junk, .junk, .junk, .junk, .junk]
def TW (l:List bM):Prop:=∀ t∈l,t.kind=4→aao t.text=false
abbrev asO (m n:Nat):Prop:=∀ {k:Int} {z:D} [Cell z] {r r1:Rd} {p:(List Sm×List ay)×Rd},r.want [123] = some r1→Rd.rows m n k false r1=some p→TW r.l→(r1.good=true→z = .int .i64 r1.n)→(r1.good=true→r1.n≤200)→
 ∀ {s:St} {o:Nat},s.aA[o]? = some (uQ z r)→
 aD Tryz.prog C8 [.ptr o 0, .int .i64 k, .bool false] s (.tuple [.slice .shared 13 ((Sm.fX true r1.n p.1.1).1.map bd), .slice .shared 1 (p.1.2.map encStr)]) ⟨s.aA.set o (uQ (cN p.2) p.2),s.aC⟩
abbrev al2 (m n:Nat):Prop:=∀ {nest:Int} {labels:List ay} {r:Rd} {p:Sm×Rd},Rd.stmt m n nest r=some p→r.good=true→TW r.l→r.n≤200→
 ∀ {s:St} {o:Nat},s.aA[o]? = some (uQ (.int .i64 r.n) r)→
 aD Tryz.prog EX [.ptr o 0, .slice .shared 1 (labels.map encStr), .int .i64 nest] s (.agg (stD p.2.good (Sm.num true r.n {p.1 with labels:=labels}).1)) ⟨s.aA.set o (uQ (cN p.2) p.2),s.aC⟩
end Go.Abs

/-! Ref8 -/

namespace Go.Abs
set_option maxRecDepth 8000
open Go.Proofs
end Go.Abs

/-! Ref9 -/

namespace Go.Abs
set_option maxRecDepth 8000
open Go.Proofs
def Rd.atz (m:Nat) (r:Rd):Option (Pc×Rd):=
 (r.name true).bind fun x=>(x.2.want [40]).bind fun r=>(r.take [41]).bind fun q=>
  if q.1 then(q.2.want [123]).bind fun r=>Rd.xa m x.1 [] r
  else if q.2.good then(Rd.params m [] q.2).bind fun y=>(y.2.want [41]).bind fun r=>(r.want [123]).bind fun r=>Rd.xa m x.1 y.1 r
  else Rd.xa m x.1 [] q.2
end Go.Abs

/-! Ref10 -/

namespace Go.Abs
set_option maxRecDepth 8000
open Go.Proofs
def Pc.gV (n:Nat):List Pc→Nat
 | []=>n
 | f::l=>Pc.gV (Sm.fX true n f.body).2 l
end Go.Abs

/-! Glue2 -/

namespace Go.Abs
def M0:Map:=⟨fun _ _=>none,fun _=>(0, .any),fun _=>none⟩
def Kept (w w':World):Prop:=w.keptBut w' (fun _=>False)∧∀ a:Addr,a.block<w.heap.size→w'.frozen? a=w.frozen? a
theorem Kept.frame {w w':World} (h:Kept w w') (may:MemPlace→Prop):w.keptBut w' may:=World.keptBut_mono (fun _ f=>f.elim) h.1
theorem Ext.aap {M M':Map} {s':St} {w w':World} (e:Ext M S0 w M' s' w'):Kept w w':=by
 have hh : ∀ b,b<w.heap.size→w'.heap[b]? = w.heap[b]? :=fun b hb=>
  e.kept b hb (fun o ho=>by simp [S0]at ho) (fun t c z hl=>by obtain⟨n,hn⟩:=hl;simp [S0]at hn)
 refine⟨⟨e.os,e.output,fun i hi=> ?_⟩,fun a ha=> ?_⟩
 ·rw [hh i hi]
  exact(World.keptBut_refl w (fun _=>False)).2.2 i hi
 ·simp only [World.frozen?,hh _ ha]
theorem alO (G:Nat→Nat→Option Value) (w:World) (h : ∀ b o v,G b o=some v→w.cell? ⟨b,o,none⟩=some v∧v.oneCell'=true):Rel ⟨G,fun _=>(0, .any),fun _=>none⟩ S0 w:=
 ⟨h,fun o ds e=>by simp [S0]at e,fun o ho=>by simp [S0]at ho,fun o o' ho=>by simp [S0]at ho,fun t n e=>by simp [S0]at e,
  fun t b c z o hl=>by obtain⟨n,hn⟩:=hl;simp [S0]at hn,fun t t' b c z c' z' hl=>by obtain⟨n,hn⟩:=hl;simp [S0]at hn⟩
def Mm (w:World):Prop:=∀ g cs,Xg g=some cs→∃ T fr,w.heap[g]? = some (.cells cs T fr)
theorem adi (G:Nat→Nat→Option Value) {w:World} (h:Mm w):Laid ⟨G,fun _=>(0, .any),fun _=>none⟩ S0 w:=
 fun g cs hg=>⟨h g cs hg,fun o ho=>by simp [S0]at ho,fun t c z hl=>by obtain⟨n,hn⟩:=hl;simp [S0]at hn⟩
theorem PA {P:Program} {f:FuncId} {args:List D} {fU:Array Value} {w:World} {G:Nat→Nat→Option Value} (h:eg P f args S0 fun d _=>d = .bool true)
 (hG : ∀ b o v,G b o=some v→w.cell? ⟨b,o,none⟩=some v∧v.oneCell'=true) (hl:fU.size=args.length)
 (ha : ∀ (i:Nat) (d:D) (v:Value),args[i]? = some d→fU[i]? = some v→RD ⟨G,fun _=>(0, .any),fun _=>none⟩ S0 d v) (kK:Mm w) :
 Calls P f fU w fun e w'=>e = .returned (.bool true)∧Kept w w':=by
 refine(h _ w fU (alO G w hG) (adi G kK) hl ha).mono fun e w' hw=> ?_
 obtain⟨M',d,v,s',rfl,rfl,he,_,hv⟩:=hw
 rw [hv.my]
 exact⟨rfl,he.aap⟩
section
variable {P:Program} {H:Type} {enc:TypeId×Value→H}
theorem H6 {f:Func} {s:ChangeSpec} {apart fresh handsOn again:Bool} {W W':World} {args:Array Value} {v:Value} {ds gs:List (DataW H)} {before pa pv:List MemPlace}
 (hW:DataW.Whole enc P f.params.toList s.vars apart W args.toList ds gs before)
 (aaq : ∀ (b:Nat) (sp:Nat→Bool) (hd:Bool),DataW.TrodAll enc P W' b sp hd f.resultTypes.toList (v.resultList f.resultTypes.size) (s.fn H (ds++gs)).results [])
 (Fo : ∀ sp:Nat→Bool,(∀ p∈before,sp p.block=true)→DataW.TrodAll enc P W' 0 sp true f.params.toList args.toList (s.fn H (ds++gs)).args pa)
 (CA : ∀ sp:Nat→Bool,(∀ p∈before,sp p.block=true)→DataW.TrodVars enc P W' sp s.vars (s.fn H (ds++gs)).vars pv)
 (sy:before=pa++pv) (hk:Kept W W')
 (DT : ∀ (j:Nat) (t:TypeId) (r:Value),f.resultTypes[j]? = some t→(v.resultList f.resultTypes.size)[j]? = some r→Value.okWide P W' .any 0 t r) :
 s.post enc P f apart fresh handsOn again W args v W':=by
 have hP : ∀ p∈before,p.block<W.heap.size:=fun p hp=>hW.lt p hp
 have hold : ∀ p∈before,(fun b=>decide (b<W.heap.size)) p.block=true:=fun p hp=>by simpa using hP p hp
 refine⟨ds,gs,before,[],pa,pv,hW,aaq _ _ _,Fo _ hold,CA _ hold,World.keptBut_mono (fun p hp=>⟨hp, ?_⟩) (hk.frame (· ∈before)),fun _=> ?_⟩
 ·rw [sy,List.mem_append]at hp
  exact Or.inr hp
 ·obtain⟨_,_,_,_,_,hz,hn⟩:=hW
  refine⟨DT,_,_,([]++pa)++pv,⟨[]++pa,pv,ChangeShapes.trodAll_append (Fo _ (fun _ _=>rfl)) (aaq _ _ _),CA _ (fun _ _=>rfl),rfl, ?_, ?_⟩, ?_⟩
  ·intro b off hp
   have nu:MemPlace.cell b off∈before:=by rw [sy];simpa using hp
   rw [hk.2 _ (hP _ nu)]
   exact hz b off nu
  ·intro ha
   have:=hn ha
   rw [sy]at this
   simpa using this
  ·intro p hp _
   rw [sy]
   simpa using hp
end
end Go.Abs

/-! LawAll -/

namespace Go.Abs
open Go.Proofs
def NW (t:bM):Prop:=t.kind=4→aao t.text=false
end Go.Abs

/-! Ck2 -/

namespace Go.Abs
set_option maxRecDepth 8000
open Go.Proofs
def CC (p:Pg) (c pW:Int):Pg×Int×Int:=if c==0 then(if p.check.1==0 then(p,0,0)else(yL,p.check))else(yL,c,pW)
theorem WS {T:ay} {p:Pg} {c pW:Int} (h:Cv Vb T=some (p,c,pW)) (hm:c=0→p.may=true∧pW=0) (hp:p.size<100000) (hl:T.length<4611686018427387904) (s:St) :
 aD Tryz.prog tt [.str T] s (.tuple [.agg (cd (CC p c pW).1), .agg (l8 (CC p c pW).2)]) s:=by
 refine aD.pure ?_ rfl (by simp [D.bJ,D.ok,iR,l8]) s
 have h1:=fun s=>WK h hl s
 have e0:cd yL = [.slice .shared 1 [], .slice .shared 5 []]:=rfl
 unfold S0
 unfold CC
 have b0:(c != 0) = !(c==0):=rfl
 rcases Bool.eq_false_or_eq_true (c==0)with b1 | b1
 case inr=>
  simp only [b1,Bool.false_eq_true,if_false]
  rw [b1]at b0
  refine aD.go qM rfl fun B Q hB hQ=> ?_
  have⟨hP,hY,hZ,gA⟩:=bw
  repeat' (first
 | simp only [go_sem,hP,hY,hZ,gA,b1,b0,Bool.not_false,l8,e0]
 | (with_reducible refine CU (h1 _) ?_)
 | (with_reducible refine aF hQ ?_;simp only [az,aB,Option.some.injEq,exists_eq_left',go_sem,hP,hY,hZ,gA];repeat' (first | exact Ok.out | with_reducible refine aG ?_ ?_ | (simp;done))))
 have hc:c=0:=by simpa using b1
 subst hc
 obtain⟨Mn,hf⟩:=hm rfl
 subst hf
 have ho:p.jX:=⟨uY Mn (by omega),by omega⟩
 have h2:=fun s=>zH ho s
 have b3:(p.check.1 != 0) = !(p.check.1==0):=rfl
 simp only [b1,if_true]
 rcases Bool.eq_false_or_eq_true (p.check.1==0)with b2 | b2
 case inr=>
  simp only [b2,Bool.false_eq_true,if_false]
  rw [b2]at b3
  refine aD.go qM rfl fun B Q hB hQ=> ?_
  have⟨hP,hY,hZ,gA⟩:=bw
  repeat' (first
 | simp only [go_sem,hP,hY,hZ,gA,b1,b3,Bool.not_false,l8,e0]
 | (with_reducible refine CU (h1 _) ?_)
 | (with_reducible refine CU (h2 _) ?_)
 | (with_reducible refine aF hQ ?_;simp only [az,aB,Option.some.injEq,exists_eq_left',go_sem,hP,hY,hZ,gA];repeat' (first | exact Ok.out | with_reducible refine aG ?_ ?_ | (simp;done))))
 simp only [b2,if_true]
 rw [b2]at b3
 refine aD.go qM rfl fun B Q hB hQ=> ?_
 have⟨hP,hY,hZ,gA⟩:=bw
 repeat' (first
 | simp only [go_sem,hP,hY,hZ,gA,b1,b3,Bool.not_true,l8]
 | (with_reducible refine CU (h1 _) ?_)
 | (with_reducible refine CU (h2 _) ?_)
 | (with_reducible refine aF hQ ?_;simp only [az,aB,Option.some.injEq,exists_eq_left',go_sem,hP,hY,hZ,gA];repeat' (first | exact Ok.out | with_reducible refine aG ?_ ?_ | (simp;done))))
theorem AY:ow.check=(0,0):=by decide +kernel
theorem PB:Pc.xG ow.procs=8:=by decide +kernel
theorem PC:yL.check=(5,0):=by decide +kernel
theorem PD (s:St):aD Tryz.prog pX [] s (.bool true) s:=by
 refine aD.pure ?_ rfl rfl s
 have ew:=Ml
 have MM:ow.size<100000:=by have:=Nat.le_of_ble_eq_true ER;omega
 have Mn:ow.may=true:=by decide +kernel
 have ho:ow.jX:=⟨uY Mn (by omega),by omega⟩
 have h1:=fun s=>WS H5 (fun _=>⟨Mn,rfl⟩) MM Mk s
 have e:CC ow 0 0=(ow,0,0):=by unfold CC;rw [AY];rfl
 rw [e]at h1
 have h2:=fun s=>aan ho s
 rw [AY]at h2
 have h3:=fun s=>WO (p:=ow) (by omega) s
 rw [PB]at h3
 have z0:((0:Int)==0)=true:=rfl
 have z8:(((8:Nat):Int)==8)=true:=rfl
 have z5:((5:Int)==5)=true:=rfl
 have h4':=fun s=>(zH aaj s).Ow (d:= .agg [.slice .full 0 [], .slice .full 0 []]) (Wk.agg (.cons (Wk.nil _ _ _) (.cons (Wk.nil _ _ _) .nil)))
 simp only [PC]at h4'
 unfold S0
 refine aD.go Ak rfl fun B Q hB hQ=> ?_
 have⟨hP,hY,hZ,gA⟩:=bw
 repeat' (first
 | simp only [go_sem,hP,hY,hZ,gA,z0,z8,z5,l8]
 | (with_reducible refine CU (SE _) ?_)
 | (with_reducible refine CU (aai _) ?_)
 | (with_reducible refine CU (h1 _) ?_)
 | (with_reducible refine CU (h2 _) ?_)
 | (with_reducible refine CU (h3 _) ?_)
 | (with_reducible refine CU (h4' _) ?_)
 | (with_reducible refine aF hQ ?_;simp only [az,aB,Option.some.injEq,exists_eq_left',go_sem,hP,hY,hZ,gA];repeat' (first | exact Ok.out | with_reducible refine aG ?_ ?_ | (simp;done))))
end Go.Abs

/-! MayLaw -/

namespace Go.Abs
def TKs (l:List bM):Prop:=∀ t∈l,(t.kind=1→isName t.text=true)∧(t.kind=2→0≤t.n)
def GK {α:Type} (r:Rd) (o:Option (α×Rd)) (Q:α→Prop):Prop:=∀ p,o=some p→p.2.l=r.l∧(p.2.good=true→r.good=true∧Q p.1)
def GKR (r:Rd) (o:Option Rd):Prop:=∀ p,o=some p→p.l=r.l∧(p.good=true→r.good=true)
end Go.Abs

/-! MayLaw2 -/

namespace Go.Abs
def SmL (s:Sm):Prop:=∀ L,c6 L=true→({s with labels:=L} : Sm).one=true
def atA (s:ay):Bool:=s == [98,114,101,97,107] || s == [99,111,110,116,105,110,117,101] || s == [114,101,116,117,114,110] || s == [103,111,116,111] || s == [114,101,97,100] || s == [112,114,105,110,116]
mutual
def Sm.okM (d:Int):Sm→Prop
 | ⟨id,kind,labels,name,proc,x,has,args,aY,aT⟩=>(⟨id,kind,labels,name,proc,x,has,args,aY,aT⟩:Sm).one=true∧d≤12∧Sm.Mp (d+1) aY∧Sm.Mp (d+1) aT
def Sm.Mp (d:Int):List Sm→Prop
 | []=>True
 | s::l=>s.okM d∧Sm.Mp d l
end
def auj (d:Int) (s:Sm):Prop:=∀ L,c6 L=true→({s with labels:=L} : Sm).okM d
structure Pc.okM (f:Pc):Prop where
 name:isName f.name=true
 params:Pm.dT f.params=true∧f.params.length≤8
 vars:c6 f.vars=true∧(f.vars.length:Int)≤16
 fin:c6 f.fin=true
 body:Sm.Mp 1 f.body
end Go.Abs

/-! MayLaw3 -/

namespace Go.Abs
def Its (n:Nat) (O6:List It):Prop:=∀ (j:Nat) (it:It),O6[j]? = some it→it.s.id=((n+j+1:Nat):Int)∧it.deep≤12∧it.s.one=true
def Pc.tot:List Pc→Nat
 | []=>0
 | f::l=>Sm.dY f.body+Pc.tot l
end Go.Abs

/-! Lx -/

namespace Go.Abs
def isR (c:UInt8):Bool:=(c.toNat:Int)==35
inductive Lx:Nat→ay→List bM→Prop where
 | nil (pos:Nat):Lx pos [] []
 | blank (pos:Nat) (c:UInt8) (r:ay) (l:List bM) (h:tO c=true) (k:Lx (pos+1) r l):Lx pos (c::r) l
 | rem (pos:Nat) (c:UInt8) (r:ay) (l:List bM) (h:tO c=false) (h2:isR c=true) (k:Lx (pos+nB (c::r)) ((c::r).drop (nB (c::r))) l):Lx pos (c::r) l
 | tok (pos:Nat) (c:UInt8) (r:ay) (t:bM) (l:List bM) (h:tO c=false) (h2:isR c=false) (ht:Dp pos (c::r) = .inl t) (k:Lx (pos+t.text.length) ((c::r).drop t.text.length) l):Lx pos (c::r) (t::l)
def auk (n:Nat):bM:=⟨0,[],0,(n:Nat)⟩
end Go.Abs

/-! Lx2 -/

namespace Go.Abs
def adj (c:UInt8):Bool:= !(oS c) && !(nA c) && !(c==61) && !(c==38) && !(c==124)
def Stop:ay→Prop
 | []=>True
 | c::_=>adj c=true
def atC (t:bM):Prop:=0<t.text.length∧∀ (p:Nat) (b:ay),Stop b→Dp p (t.text++b) = .inl {t with pos:=(p:Nat)}
end Go.Abs

/-! Sim -/

namespace Go.Abs
structure TEq (t t':bM):Prop where
 k:t'.kind=t.kind
 x:t'.text=t.text
 n:t'.n=t.n
def Quiet (t:bM):Prop:=t.kind=0∨t.kind=4∧t.text = [125]
def H8 (t:bM):Prop:=t.kind=0∨t.kind=3∧t.text = [112,114,111,99]
structure Env (l l':List bM) (N:Nat) (A:Prop):Prop where
 low : ∀ (i:Nat) (t:bM),l[i]? = some t→(A∨i<N)→∃ t',l'[i]? = some t'∧TEq t t'
 at' : ¬ A→∃ t t',l[N]? = some t∧l'[N]? = some t'∧Quiet t∧H8 t'
section
variable {l l':List bM} {N:Nat} {A:Prop}
structure SK (l l':List bM) (r r':Rd):Prop where
 el:r.l=l
 el':r'.l=l'
 ei:r'.i=r.i
 en:r'.n=r.n
 ec:r'.code=r.code
 ef:r.code=0∨(r.code=3∨r.code=4)∧∃ (j:Nat) (t t':bM),l[j]? = some t∧l'[j]? = some t'∧r.pW=t.pos∧r'.pW=t'.pos
def Cnd (N:Nat) (A:Prop) (r:Rd):Prop:=A∨r.good=true∧r.i≤N
def SR (l l':List bM) (N:Nat) (A:Prop) (r r':Rd):Prop:=Cnd N A r→SK l l' r r'
def Sim {α:Type} (l l':List bM) (N:Nat) (A:Prop) (r:Rd) (o o':Option (α×Rd)):Prop:=
 ∀ p,o=some p→r.i≤p.2.i∧(p.2.good=true→r.good=true)∧(Cnd N A p.2→∃ q',o'=some (p.1,q')∧SK l l' p.2 q')
def aul (l l':List bM) (N:Nat) (A:Prop) (r:Rd) (o o':Option Rd):Prop:=
 ∀ p,o=some p→r.i≤p.i∧(p.good=true→r.good=true)∧(Cnd N A p→∃ q',o'=some q'∧SK l l' p q')
end
end Go.Abs

/-! Sim2 -/

namespace Go.Abs
section
variable {l l':List bM} {N:Nat} {A:Prop}
def Next (N:Nat) (A:Prop) (r:Rd) (t t':bM):Prop:=TEq t t'∨(¬ A∧r.i=N∧Quiet t∧H8 t')
structure aum (N:Nat) (A:Prop) (r r':Rd):Prop where
 g:r'.good=r.good
 i:r'.i=r.i
 n:r'.n=r.n
 pk : ∀ t,r.mC=some t→∃ t',r'.mC=some t'∧Next N A r t t'
 pk2 : ∀ t,r.mC=some t→t.kind=1→∀ u,C5 r.l (r.i+1)=some u→∃ u',C5 r'.l (r'.i+1)=some u'∧(TEq u u'∨Quiet u∧H8 u')
end
end Go.Abs

/-! Sim3 -/

namespace Go.Abs
section
variable {l l':List bM} {N:Nat} {A:Prop}
end
end Go.Abs

/-! Sim4 -/

namespace Go.Abs
section
variable {l l':List bM} {N:Nat} {A:Prop}
end
end Go.Abs

/-! MayLaw4 -/

namespace Go.Abs
def FOk (L:List bM) (c pW:Int):Prop:=c=0∧pW=0∨(c=3∨c=4)∧∃ t∈L,t.pos=pW
end Go.Abs

/-! Full2 -/

namespace Go.Abs
set_option maxRecDepth 8000
open Go.Proofs
mutual
def Ex.nodes:Ex→Nat
 | ⟨_,_,_,kids⟩=>1+Ex.PE kids
def Ex.PE:List Ex→Nat
 | []=>0
 | x::l=>x.nodes+Ex.PE l
end
mutual
def Mq:Ex→Int→Int
 | ⟨_,_,_,kids⟩,fk=>Vd kids fk 1
def Vd:List Ex→Int→Int→Int
 | [],_,n=>n
 | x::l,fk,n=>if n≤fk then Vd l fk (n+Mq x (fk - n))else n
end
end Go.Abs

/-! Binds1 -/

namespace Go.Abs
set_option maxRecDepth 8000
open Go.Proofs
def CD (n:Int):List D:= [.int .i64 n]
theorem adk (n:Int):D.bJ 0 0 (CD n)=true:=rfl
theorem aau (n m:Nat) (l:List Int):D.jD n m (l.map CD)=l.map CD:=lV adk n m l
attribute [go_sem] CD aau
def sX (op:Int):ay:=
 if op=5 then [42]else if op=6 then [47]else if op=7 then [37]else if op=8 then [43]else if op=9 then [45]else if op=10 then [60]else if op=11 then [60,61]
 else if op=12 then [62]else if op=13 then [62,61]else if op=14 then [61,61]else if op=15 then [33,61]else if op=16 then [38,38]else [124,124]
def gv (op:Int):Int:=(Zb (sX op)).1
theorem atD {op:Int} (h:(decide (5≤op) && decide (op≤17))=true):op=5∨op=6∨op=7∨op=8∨op=9∨op=10∨op=11∨op=12∨op=13∨op=14∨op=15∨op=16∨op=17:=by
 simp only [Bool.and_eq_true,decide_eq_true_eq]at h;omega
def PF:Nat→List ay
 | 0=> []
 | n+1=>PF n++ [[UInt8.ofNat (97+n)]]
end Go.Abs

/-! Full3 -/

namespace Go.Abs
set_option maxRecDepth 8000
open Go.Proofs
def SL:Nat→Nat→ay
 | 0,_=> []
 | f+1,n=>if n<10 then [UInt8.ofNat (48+n)]else SL f (n / 10)++ [UInt8.ofNat (48+n % 10)]
end Go.Abs

/-! Full4 -/

namespace Go.Abs
set_option maxRecDepth 8000
open Go.Proofs
inductive qv:Ex→Prop
 | num (n:Int) (h0:0≤n) (h1:n≤9223372036854775807):qv ⟨1,n,[],[]⟩
 | name (t:ay) (h:isName t=true):qv ⟨2,0,t,[]⟩
 | neg (y:Ex) (h:qv y):qv ⟨3,0,[],[y]⟩
 | no (y:Ex) (h:qv y):qv ⟨4,0,[],[y]⟩
 | two (op:Int) (a b:Ex) (ho:(decide (5≤op) && decide (op≤17))=true) (ha:qv a) (hb:qv b):qv ⟨op,0,[],[a,b]⟩
mutual
def FG:Ex→ay
 | ⟨op,n,name,kids⟩=>adl op n name kids
def adl (op n:Int) (name:ay):List Ex→ay
 | []=>if op=2 then name else SL 20 n.toNat
 | [a]=>if op=3 then [40,45]++FG a++ [41]else [40,33]++FG a++ [41]
 | a::b::_=> [40]++FG a++sX op++FG b++ [41]
end
end Go.Abs

/-! Prim -/

namespace Go.Abs
open Go.Proofs
end Go.Abs

/-! Prim2 -/

namespace Go.Abs
open Go.Proofs Go.RowKit
def FH (l:ay):List (List D):=l.map fun c=> [.int .u8 c.toNat]
end Go.Abs

/-! Pr1 -/

namespace Go.Abs
open Go.Proofs
mutual
def rN (least:Int):Ex→ay
 | ⟨op,n,name,kids⟩=>prK least op n name kids
def prK (least op n:Int) (name:ay):List Ex→ay
 | []=>if op=2 then name else SL 20 n.toNat
 | [a]=>if op=3 then [45]++rN 7 a else [33]++rN 7 a
 | a::b::_=>if gv op<least then [40]++(rN (gv op) a++ [32]++sX op++ [32]++rN (gv op+1) b)++ [41]else rN (gv op) a++ [32]++sX op++ [32]++rN (gv op+1) b
end
def prT (op:Int) (a b:Ex):ay:=rN (gv op) a++ [32]++sX op++ [32]++rN (gv op+1) b
def asR (x:Ex):ay:=if x.may then rN 0 x else []
end Go.Abs

/-! Binds2 -/

namespace Go.Abs
open Go.Proofs
def alP (names:List ay) (ops:List Int):Nat→ay
 | 0=> []
 | i+1=>alP names ops i++(if i=0 then []else sX (ops.getD (i - 1) 0))++names.getD i []
structure atE (names:List ay) (ops:List Int):Prop where
 len:names.length=ops.length+1
 fk:ops.length≤20
 short : ∀ x∈names,x.length≤1
 op : ∀ o∈ops,(decide (5≤o) && decide (o≤17))=true
def adn (i:Nat) (op:Int) (al:Nat×Int):Nat×Int:=if gv op≤al.2 then(i,gv op)else al
def JN:List Int→Nat→Nat×Int→Nat×Int
 | [],_,al=>al
 | op::r,i,al=>JN r (i+1) (adn i op al)
def PG:Nat→List ay→List Int→Ex
 | 0,_,_=>ld
 | n+1,names,ops=>if ops.length=0 then jB (names.getD 0 [])else
  rf (ops.getD (JN ops 0 (0,9)).1 0) (PG n (names.take ((JN ops 0 (0,9)).1+1)) (ops.take (JN ops 0 (0,9)).1)) (PG n (names.drop ((JN ops 0 (0,9)).1+1)) (ops.drop ((JN ops 0 (0,9)).1+1)))
end Go.Abs

/-! BindsL -/

namespace Go.Abs
inductive tZ:Ex→List (Int×ay)→Ex→Prop
 | nil (x:Ex):tZ x [] x
 | cut (x:Ex) (p1:List (Int×ay)) (op:Int) (y:ay) (p2:List (Int×ay)) (t1 t2:Ex) (h1:tZ x p1 t1) (h2:tZ (jB y) p2 t2) (l1 : ∀ q∈p1,gv op≤gv q.1) (l2 : ∀ q∈p2,gv op<gv q.1) :
  tZ x (p1++(op,y)::p2) (rf op t1 t2)
def CF:List (Int×ay)→List bM→Prop
 | [],l=>∃ t r,l=t::r∧t.kind=0
 | (op,y)::p,l=>∃ s u r,l=s::u::r∧s.kind=4∧s.text=sX op∧(decide (5≤op) && decide (op≤17))=true∧u.kind=1∧u.text=y∧CF p r
def asS (n:Nat):Prop:=∀ (least:Int) (r:Rd) (t0:bM) (p:List (Int×ay)) (l:List bM) (x:Ex×Rd),r.l.drop r.i=t0::l→t0.kind=1→CF p l→r.code=0→1≤least→Rd.two n least r=some x→
 ∃ p1 p2,p=p1++p2∧tZ (jB t0.text) p1 x.1∧(∀ q∈p1,least≤gv q.1)∧(∀ q p',p2=q::p'→gv q.1<least)∧x.2 = {r with i:=r.i+1+2*p1.length}∧CF p2 (l.drop (2*p1.length))
def al3 (n:Nat):Prop:=∀ (least:Int) (x0:Ex) (A:List (Int×ay)) (x:Ex) (r:Rd) (p:List (Int×ay)) (l:List bM) (z:Ex×Rd),r.l.drop r.i=l→CF p l→r.code=0→1≤least→tZ x0 A x→
 (∀ q p',p=q::p'→∀ a∈A,gv q.1≤gv a.1)→Rd.yO n least x r=some z→
 ∃ p1 p2,p=p1++p2∧tZ x0 (A++p1) z.1∧(∀ q∈p1,least≤gv q.1)∧(∀ q p',p2=q::p'→gv q.1<least)∧z.2 = {r with i:=r.i+2*p1.length}∧CF p2 (l.drop (2*p1.length))
end Go.Abs

/-! BindsL2 -/

namespace Go.Abs
def AtB (d:List Int) (al:Nat×Int):Prop:=(d = []∧al.2=9)∨∃ o1 op o2,d=o1++op::o2∧o1.length=al.1∧gv op=al.2∧(∀ o∈o1,gv op≤gv o)∧∀ o∈o2,gv op<gv o
def ado:List ay→List Int→ay
 | x::xs,op::ops=>sX op++(x++ado xs ops)
 | _,_=> []
def alQ:ay→Prop
 | []=>True
 | c::_=>oS c=false∧nA c=false
end Go.Abs

/-! Full5 -/

namespace Go.Abs
def sY (t:bM) (k:Int) (s:ay) (n:Int):Prop:=t.kind=k∧t.text=s∧t.n=n
inductive sZ:Ex→List bM→List bM→Prop
 | num (n:Int) (t:bM) (l:List bM) (h:t.kind=2) (h2:t.n=n):sZ ⟨1,n,[],[]⟩ (t::l) l
 | name (s:ay) (t:bM) (l:List bM) (h:t.kind=1) (h2:t.text=s):sZ ⟨2,0,s,[]⟩ (t::l) l
 | neg (y:Ex) (p m q:bM) (l r:List bM) (hp:sY p 4 [40] 0) (hm:sY m 4 [45] 0) (hy:sZ y l (q::r)) (hq:sY q 4 [41] 0):sZ ⟨3,0,[],[y]⟩ (p::m::l) r
 | no (y:Ex) (p m q:bM) (l r:List bM) (hp:sY p 4 [40] 0) (hm:sY m 4 [33] 0) (hy:sZ y l (q::r)) (hq:sY q 4 [41] 0):sZ ⟨4,0,[],[y]⟩ (p::m::l) r
 | two (op:Int) (a b:Ex) (p o q:bM) (l m r:List bM) (ho:(decide (5≤op) && decide (op≤17))=true) (hp:sY p 4 [40] 0) (ha:sZ a l (o::m)) (hs:sY o 4 (sX op) 0) (hb:sZ b m (q::r)) (hq:sY q 4 [41] 0) :
  sZ ⟨op,0,[],[a,b]⟩ (p::l) r
end Go.Abs

/-! Full6 -/

namespace Go.Abs
end Go.Abs

/-! Full7 -/

namespace Go.Abs
def Okd:ay→Prop
 | []=>False
 | d::_=>d≠61∧d≠38∧d≠124
end Go.Abs

/-! Pe1 -/

namespace Go.Abs
def Rd.mv (r:Rd) (k:Nat):Rd:= {r with i:=r.i+k}
structure At (r:Rd) (l:List bM):Prop where
 d:r.l.drop r.i=l
 c:r.code=0
 s:r.l.length<1000000000
def Kd (t:bM):Prop:=0≤t.kind∧t.kind≤4
def Halt (c:Int) (m:List bM):Prop:=∃ t m',m=t::m'∧Kd t∧((mB t).1=0∨(mB t).2≤c)
def atF (x:Ex) (l:List bM):Prop:=∀ (r:Rd) (lr:List bM) (n:Nat),At r (l++lr)→3*l.length≤n+1→Rd.one n r=some (x,r.mv l.length)
def atG (c:Int) (x:Ex) (l:List bM):Prop:=∀ (r:Rd) (lr:List bM) (n:Nat) (k:Int),At r (l++lr)→Halt c lr→k≤c→3*l.length≤n→∃ n',n≤n'+3*l.length∧Rd.two n k r=Rd.yO n' k x (r.mv l.length)
end Go.Abs

/-! Pe2 -/

namespace Go.Abs
def rO (least:Int):Ex→Nat
 | ⟨op,_,_,kids⟩=>match kids with
  | []=>1
  | [a]=>1+rO 7 a
  | a::b::_=>rO (gv op) a+1+rO (gv op+1) b+(if gv op<least then 2 else 0)
def LxS (s:ay) (pos:Nat) (l:List bM):Prop:=∀ r lr,alQ r→Lx (pos+s.length) r lr→Lx pos (s++r) (l++lr)
def aav (l:List bM):Prop:=(∃ t l',l=t::l'∧(t.kind=2∨(t.kind=4∧(t.text = [40]∨t.text = [45]∨t.text = [33]))))∨(∃ t,l = [t]∧t.kind=1)∨∃ t u l',l=t::u::l'∧t.kind=1∧(decide (5≤(mB u).1) && decide ((mB u).1≤17))=true
def Ends (m:List bM):Prop:=∃ t m',m=t::m'∧Kd t∧(mB t).1=0
def WT (x:Ex) (l:List bM):Prop:=∀ (r:Rd) (lr:List bM) (n:Nat),At r (l++lr)→Ends lr→3*l.length<n→Rd.whole n r=some (x,r.mv l.length)
end Go.Abs

/-! Bld -/

namespace Go.Abs
open Go.Proofs
theorem adq (n m:Nat) (l:ay):D.iZ n m (FH l)=true:=by
 simp [FH,BM,yD,D.ok]
theorem adr (n m:Nat) (l:ay):D.jD n m (FH l)=FH l:=BR n m _ (adq 0 0 l)
attribute [go_sem] adr
def rh (n:Nat) (m:ay):ay:=List.replicate n 32++m++ [10]
end Go.Abs

/-! Pr2 -/

namespace Go.Abs
open Go.Proofs
def zI:List ay→ay
 | []=> []
 | s::l=>s++ [58,32]++zI l
def alR (a:Ar):ay:=if a.ref then [114,101,102,32]++a.name else rN 0 a.x
def ads (name proc:ay) (args:List Ar):ay:=(if name = []then []else name++ [32,61,32])++(proc++ [40]++Lib.join (args.map alR) [44,32]++ [41])
def PH (kind:Int) (name proc:ay) (x:Ex) (has:Bool) (args:List Ar):ay:=
 if kind=1 then name++ [32,61,32]++rN 0 x else if kind=2 then [114,101,97,100,32]++name else if kind=3 then [112,114,105,110,116,32]++rN 0 x else if kind=7 then [98,114,101,97,107]else if kind=8 then [99,111,110,116,105,110,117,101]
 else if kind=10 then [103,111,116,111,32]++name else if kind=9 then(if has then [114,101,116,117,114,110,32]++rN 0 x else [114,101,116,117,114,110])else ads name proc args
structure Sm.PrO (s:Sm):Prop where
 x:s.sg=true→qv s.x
 UM : ∀ t∈s.labels,t.length≤8
 name:s.name.length≤8
 proc:s.proc.length≤8
 args : ∀ a∈s.args,a.name.length≤8∧(a.ref=false→qv a.x)
 kind:1≤s.kind∧s.kind≤10
 aT:s.kind=6→s.aT = []
end Go.Abs

/-! Pr3 -/

namespace Go.Abs
open Go.Proofs
mutual
def alS (bS:Nat):Sm→ay
 | ⟨id,kind,labels,name,proc,x,has,args,aY,aT⟩=>
  if kind=6 then rh bS (zI labels++ [119,104,105,108,101,32,40]++rN 0 x++ [41,32,123])++xH (bS+1) aY++rh bS [125]
  else if kind=5 then rh bS (zI labels++ [105,102,32,40]++rN 0 x++ [41,32,123])++xH (bS+1) aY++(if aT.length=0 then []else rh bS [125,32,101,108,115,101,32,123]++xH (bS+1) aT)++rh bS [125]
  else rh bS (zI labels++PH kind name proc x has args++ [59])
def xH (bS:Nat):List Sm→ay
 | []=> []
 | s::l=>alS bS s++xH bS l
end
mutual
def Sm.PrR (bS:Nat):Sm→Prop
 | ⟨id,kind,labels,name,proc,x,has,args,aY,aT⟩=>Sm.PrO ⟨id,kind,labels,name,proc,x,has,args,aY,aT⟩∧bS≤12∧Sm.Mr (bS+1) aY∧Sm.Mr (bS+1) aT
def Sm.Mr (bS:Nat):List Sm→Prop
 | []=>True
 | s::l=>s.PrR bS∧Sm.Mr bS l
end
def kR (l:ay):Nat:=l.length
end Go.Abs

/-! Own -/

namespace Go.Abs
end Go.Abs

/-! Pr4 -/

namespace Go.Abs
open Go.Proofs
def aaw (a:Pm):ay:=(if a.ref then [114,101,102,32]else [])++a.name
def adt (f:Pc):ay:=
 rh 0 ([112,114,111,99,32]++f.name++ [40]++Lib.join (f.params.map aaw) [44,32]++ [41,32,123])++(if f.vars.length=0 then []else rh 1 ([118,97,114,32]++Lib.join f.vars [44,32]++ [59]))++xH 1 f.body++rh 0 (zI f.fin++ [125])
def PI:List Pc→ay
 | []=> []
 | f::l=>adt f++PI l
def aax (l:List ay):ay:=if l.length=0 then []else rh 0 ([103,108,111,98,97,108,32]++Lib.join l [44,32]++ [59])
def atH (p:Pg):ay:=aax p.globals++PI p.procs
structure Pc.PrP (f:Pc):Prop where
 name:f.name.length≤8
 params : ∀ a∈f.params,a.name.length≤8
 vars : ∀ t∈f.vars,t.length≤8
 fin : ∀ t∈f.fin,t.length≤8
 body:Sm.Mr 1 f.body
structure Pg.PrG (p:Pg):Prop where
 globals : ∀ t∈p.globals,t.length≤8
 procs : ∀ f∈p.procs,f.PrP
end Go.Abs

/-! Ps1 -/

namespace Go.Abs
def LxF (s:ay) (pos:Nat) (l:List bM):Prop:=∀ r lr,Lx (pos+s.length) r lr→Lx pos (s++r) (l++lr)
def tSg (c:UInt8) (pos:Nat):bM:=⟨4,[c],0,(pos:Nat)⟩
def tNm (t:ay) (pos:Nat):bM:=⟨1,t,0,(pos:Nat)⟩
def tWd (t:ay) (pos:Nat):bM:=⟨3,t,0,(pos:Nat)⟩
inductive Ms {α:Type} (G:α→List bM→Prop):List α→List bM→Prop
 | one (x:α) (l:List bM) (h:G x l):Ms G [x] l
 | cons (x:α) (l:List bM) (c:bM) (hc:c.kind=4∧c.text = [44]) (xs:List α) (m:List bM) (h:G x l) (k:Ms G xs m):Ms G (x::xs) (l++c::m)
end Go.Abs

/-! Ps2 -/

namespace Go.Abs
def Ve (t:ay) (l:List bM):Prop:=∃ k:bM,l = [k]∧k.kind=1∧k.text=t
def asW (a:Pm) (l:List bM):Prop:=if a.ref then ∃ w k:bM,l = [w,k]∧w.kind=3∧w.text = [114,101,102]∧k.kind=1∧k.text=a.name else Ve a.name l
def aun (a:Ar) (l:List bM):Prop:=if a.ref then ∃ w k:bM,l = [w,k]∧w.kind=3∧w.text = [114,101,102]∧k.kind=1∧k.text=a.name else WT a.x l∧aav l∧l.length=rO 0 a.x
def arZ (a:Ar):Ar:=if a.ref then⟨true,a.name,ld⟩else⟨false,[],a.x⟩
inductive Mt:List ay→List bM→Prop
 | nil:Mt [] []
 | cons (t c:bM) (ls:List ay) (m:List bM) (ht:t.kind=1) (hc:c.kind=4) (S5:c.text = [58]) (h:Mt ls m):Mt (t.text::ls) (t::c::m)
def atI (l:List bM):Prop:=∃ t l',l=t::l'∧Kd t∧(t.kind≠1∨∃ u m,l'=u::m∧(u.kind≠4∨u.text≠ [58]))
end Go.Abs

/-! PrMay -/

namespace Go.Abs
end Go.Abs

/-! Pr5 -/

namespace Go.Abs
set_option maxRecDepth 8000
open Go.Proofs
def atJ (x:Ex):Int:=if lg x.op<2 then 7 else gv x.op
def adu (sep:ay):Nat→List ay→ay
 | _,[]=> []
 | k,a::l=>(if k=0 then []else sep)++(a++adu sep (k+1) l)
end Go.Abs

/-! Pr6 -/

namespace Go.Abs
set_option maxRecDepth 8000
open Go.Proofs
def adv (s:Sm):ay:=if s.kind=6 then [119,104,105,108,101,32,40]++rN 0 s.x++ [41,32,123]else if s.kind=5 then [105,102,32,40]++rN 0 s.x++ [41,32,123]else PH s.kind s.name s.proc s.x s.has s.args++ [59]
end Go.Abs

/-! Pr7 -/

namespace Go.Abs
set_option maxRecDepth 8000
open Go.Proofs
end Go.Abs

/-! Ps3 -/

namespace Go.Abs
mutual
def Sm.z:Sm→Sm
 | ⟨_,kind,labels,name,proc,x,has,args,aY,aT⟩=>⟨0,kind,labels,name,proc,x,has,args,Sm.zs aY,Sm.zs aT⟩
def Sm.zs:List Sm→List Sm
 | []=> []
 | s::l=>s.z::Sm.zs l
end
structure auo (s:Sm):Prop where
 UM:c6 s.labels=true
 x:s.sg=true→s.x.may=true
 x0:s.sg=false→s.x=ld
 has:s.has=true→s.kind=9
 nm:s.hasName=true→isName s.name=true
 nm0:s.hasName=false→s.name = []∨(s.mV=true∧isName s.name=true)
 proc:s.mV=true→isName s.proc=true
 call:s.mV=false→s.proc = []∧s.args = []
 args:Ar.dT s.args=true
 aY:s.aY = []∨s.kind=5∨s.kind=6
 aT:s.aT = []∨s.kind=5
 kind:1≤s.kind∧s.kind≤10
def atK (bS:Nat) (s:Sm):ay:=adv s++([10]++(if s.kind=5∨s.kind=6 then
 xH (bS+1) s.aY++((if s.kind=5∧s.aT.length≠0 then List.replicate bS 32++ [125,32,101,108,115,101,32,123,10]++xH (bS+1) s.aT else [])++(List.replicate bS 32++ [125,10]))else []))
def NoW (w:ay) (l:List bM):Prop:=∃ t l',l=t::l'∧Kd t∧((t.kind≠3∧t.kind≠4)∨t.text≠w)
abbrev aaz (l:List bM):Prop:=NoW [101,108,115,101] l
def asX (nest:Int) (n0 n1:Nat) (s:Sm) (l:List bM):Prop:=∀ (r:Rd) (lr:List bM) (m n:Nat),At r (l++lr)→aaz lr→r.n=n0→3*l.length<m→l.length≤n→
 Rd.stmt m n nest r=some ({s.z with labels:= []},{r.mv l.length with n:=n1})
end Go.Abs

/-! Ps4 -/

namespace Go.Abs
def argN (a:Ar):Nat:=if a.ref then 2 else rO 0 a.x
def zJ {α:Type} (f:α→Nat):List α→Nat
 | []=>0
 | [a]=>f a
 | a::b::l=>f a+1+zJ f (b::l)
def PJ (kind:Int) (name:ay) (x:Ex) (has:Bool) (args:List Ar):Nat:=
 if kind=1 then rO 0 x+3 else if kind=2 then 3 else if kind=3 then rO 0 x+2 else if kind=7 then 2 else if kind=8 then 2 else if kind=10 then 3
 else if kind=9 then(if has then rO 0 x+2 else 2)else(if name = []then 0 else 2)+zJ argN args+4
def atL (l:List bM):Prop:=(∃ t u l',l=t::u::l'∧t.kind=1∧(u.kind≠4∨u.text≠ [58]))∨(∃ t l',l=t::l'∧t.kind=3∧t.text≠ [125]∧t.text≠ [101,108,115,101]∧t.text≠ [118,97,114])
end Go.Abs

/-! Ps5 -/

namespace Go.Abs
mutual
def FI:Sm→Nat
 | ⟨_,kind,_,name,_,x,has,args,aY,aT⟩=>if kind=6 then rO 0 x+5+vh aY else if kind=5 then rO 0 x+5+vh aY+(if aT.length=0 then 0 else vh aT+3)else PJ kind name x has args
def vh:List Sm→Nat
 | []=>0
 | s::l=>2*s.labels.length+FI s+vh l
end
def asY (nest:Int) (n0 n1:Nat) (l:List Sm) (L:List bM):Prop:=∀ (fin:List ay) (F:List bM) (q:bM) (body:Bool) (r:Rd) (lr:List bM) (m n:Nat) (out:List Sm),Mt fin F→q.kind=4→q.text = [125]→(body=true∨fin = [])→
 At r (L++(F++q::lr))→r.n=n0→3*(L.length+F.length+1)<m→L.length+F.length+1≤n→out.length+l.length≤1000000→fin.length≤1000000→
 Rd.sJ m n nest body out r=some ((out++Sm.zs l,fin),{r.mv (L.length+F.length+1)with n:=n1})
def asZ (L:List bM):Prop:=∀ w,(w = [101,108,115,101]∨w = [118,97,114])→∀ lr,NoW w lr→NoW w (L++lr)
end Go.Abs

/-! Pr8 -/

namespace Go.Abs
set_option maxRecDepth 8000
open Go.Proofs
end Go.Abs

/-! Ps6 -/

namespace Go.Abs
def aaA (a:Pm):Nat:=if a.ref then 2 else 1
def as0 (w:ay) (l:List ay) (T:List bM):Prop:=(l = []∧T = [])∨∃ (t q:bM) (m:List bM),T=t::(m++ [q])∧t.kind=3∧t.text=w∧Ms Ve l m∧q.kind=4∧q.text = [59]
def zK (l:List ay):Nat:=if l.length=0 then 0 else zJ (fun _=>1) l+2
def as1 (n0 n1:Nat) (f:Pc) (l:List bM):Prop:=∀ (r:Rd) (lr:List bM) (m:Nat),At r (l++lr)→r.n=n0→3*l.length+10<m→Rd.proc m r=some (⟨f.name,f.params,f.vars,Sm.zs f.body,f.fin⟩,{r.mv l.length with n:=n1})
def Vf (f:Pc):Nat:=6+zJ aaA f.params+zK f.vars+vh f.body+2*f.fin.length
end Go.Abs

/-! Ps7 -/

namespace Go.Abs
def Pc.z (f:Pc):Pc:=⟨f.name,f.params,f.vars,Sm.zs f.body,f.fin⟩
def Pg.z (p:Pg):Pg:=⟨p.globals,p.procs.map Pc.z⟩
def al4 (n0:Nat) (l:List Pc) (L:List bM):Prop:=∀ (r:Rd) (e:bM) (m n:Nat) (out:List Pc),At r (L++ [e])→e.kind=0→r.n=n0→out.length+l.length≤16→3*L.length+10<m→l.length<n→
 ∃ n1,Rd.procs m n out r=some (out++l.map Pc.z,{r.mv L.length with n:=n1})
def zL:List Pc→Nat
 | []=>0
 | f::l=>Vf f+zL l
def Pg.aC (p:Pg):Nat:=zK p.globals+zL p.procs
end Go.Abs

/-! Swap2 -/

namespace Go.Abs
theorem JO (a b:ay) (x:Ex) : ∀ k,rO k (x.swap a b)=rO k x:=by
 have key : ∀ n:Nat,∀ x:Ex,x.size≤n→∀ k,rO k (x.swap a b)=rO k x:=by
  intro n
  induction n with
  | zero=>intro x h;cases x;simp only [Ex.size]at h;omega
  | succ n ih=>
   rintro⟨op,m,name,kids⟩ h k
   simp only [Ex.size]at h
   match kids with
   | []=>simp [rO,Ex.swap,Ex.cP]
   | [x]=>
    simp only [Ex.aW]at h
    simp only [rO,Ex.swap,Ex.cP]
    rw [ih x (by omega)]
   | x::y::l=>
    simp only [Ex.aW]at h
    simp only [rO,Ex.swap,Ex.cP]
    rw [ih x (by omega),ih y (by omega)]
 exact key _ x (Nat.le_refl _)
theorem WU (a b:ay) (x:Ar):argN (x.swap a b)=argN x:=by simp only [argN,Ar.swap,JO]
theorem Af {α:Type} {f:α→Nat} {g:α→α} (h : ∀ x,f (g x)=f x) : ∀ l:List α,zJ f (l.map g)=zJ f l
 | []=>rfl
 | [x]=>by simp only [List.map_cons,List.map_nil,zJ,h]
 | x::y::l=>by
  have:=Af h (y::l)
  simp only [List.map_cons]at this
  simp only [List.map_cons,zJ,h,this]
mutual
theorem WV {a b:ay} (ha:isName a=true) (hb:isName b=true) : ∀ s:Sm,(s.swap a b).size=s.size∧(s.kP→(s.swap a b).kP)∧(s.swap a b).swap a b=s∧FI (s.swap a b)=FI s∧(s.swap a b).labels.length=s.labels.length
 | ⟨id,kind,labels,name,proc,x,has,args,aY,aT⟩=>by
  obtain⟨h1,h2,h3,h4⟩:=xI ha hb aY
  obtain⟨k1,k2,k3,k4⟩:=xI ha hb aT
  obtain⟨_,x1,x2,x3⟩:=pI a b x
  refine⟨?_,fun h=> ?_, ?_, ?_, ?_⟩
  ·simp only [Sm.swap,Sm.size,h1,k1,x1,Dz,List.length_map]
  ·simp only [Sm.swap,Sm.kP]at h ⊢
   refine⟨x2 h.1,fun y hy=> ?_,h2 h.2.2.1,k2 h.2.2.2⟩
   obtain⟨z,hz,rfl⟩:=List.mem_map.1 hy
   exact(pI a b z.x).2.2.1 (h.2.1 z hz)
  ·simp only [Sm.swap,qS,gE,x3,Dy,h3,k3]
  ·have e:(ct a b name = [])=(name = []):=by
    have:=s5 ha hb name
    rw [Bool.eq_iff_iff,beq_iff_eq,beq_iff_eq]at this
    exact propext this
   simp only [Sm.swap,FI,PJ,JO,h4,k4,xA,Af (WU a b),e]
  ·simp only [Sm.swap,List.length_map]
theorem xI {a b:ay} (ha:isName a=true) (hb:isName b=true) : ∀ l:List Sm,Sm.aW (Sm.cP a b l)=Sm.aW l∧(Sm.lD l→Sm.lD (Sm.cP a b l))∧Sm.cP a b (Sm.cP a b l)=l∧vh (Sm.cP a b l)=vh l
 | []=>⟨rfl,fun _=>trivial,rfl,rfl⟩
 | s::l=>by
  obtain⟨h1,h2,h3,h4⟩:=xI ha hb l
  obtain⟨k1,k2,k3,k4,k5⟩:=WV ha hb s
  refine⟨?_,fun h=> ?_, ?_, ?_⟩
  ·simp only [Sm.cP,Sm.aW,h1,k1]
  ·simp only [Sm.cP,Sm.lD]at h ⊢;exact⟨k2 h.1,h2 h.2⟩
  ·simp only [Sm.cP,h3,k3]
  ·simp only [Sm.cP,vh,h4,k4,k5]
end
theorem CG (l:List ay) (g:ay→ay):zK (l.map g)=zK l:=by
 unfold zK
 rw [List.length_map,Af (f:=fun _=>1) (g:=g) (fun _=>rfl)]
theorem H9 {a b:ay} (ha:isName a=true) (hb:isName b=true) : ∀ l:List Pc,Pc.aW (l.map (Pc.swap a b))=Pc.aW l∧((∀ f∈l,Sm.lD f.body)→∀ f∈l.map (Pc.swap a b),Sm.lD f.body)∧(l.map (Pc.swap a b)).map (Pc.swap a b)=l∧zL (l.map (Pc.swap a b))=zL l
 | []=>⟨rfl,fun h=>h,rfl,rfl⟩
 | f::l=>by
  obtain⟨h1,h2,h3,h4⟩:=H9 ha hb l
  obtain⟨k1,k2,k3,k4⟩:=xI ha hb f.body
  refine⟨?_,fun h g hg=> ?_, ?_, ?_⟩
  ·simp only [List.map_cons,Pc.aW,Pc.size,Pc.swap,List.length_map,k1,h1]
  ·rw [List.map_cons]at hg
   rcases List.mem_cons.1 hg with rfl | hg
   ·exact k2 (h f (List.mem_cons_self ..))
   ·exact h2 (fun g m=>h g (List.mem_cons_of_mem _ m)) g hg
  ·simp only [List.map_cons,h3]
   simp only [Pc.swap,gE,DA,qS,k3]
  ·simp only [List.map_cons,zL,Vf,h4]
   simp only [Pc.swap,k4,List.length_map,CG,Af (f:=aaA) (g:=Pm.swap a b) (fun _=>rfl)]
theorem PK {a b:ay} (ha:isName a=true) (hb:isName b=true) (p:Pg):(p.swap a b).size=p.size∧(p.kP→(p.swap a b).kP)∧(p.swap a b).swap a b=p∧(p.swap a b).aC=p.aC:=by
 obtain⟨h1,h2,h3,h4⟩:=H9 ha hb p.procs
 refine⟨?_,h2, ?_, ?_⟩
 ·simp only [Pg.swap,Pg.size,List.length_map,h1]
 ·simp only [Pg.swap,qS,h3]
 ·simp only [Pg.swap,Pg.aC,CG,h4]
end Go.Abs

/-! Swap1 -/

namespace Go.Abs
set_option maxRecDepth 8000
open Go.Proofs
theorem Ag (a b t:ay) (s:St):aD Tryz.prog iC [.str t, .str a, .str b] s (.str (ct a b t)) s:=by
 refine aD.pure ?_ rfl rfl s
 unfold S0 ct
 cases c1:t==a with
 | true=>
  rw [if_pos rfl]
  refine aD.go qN rfl fun B Q hB hQ=> ?_
  have⟨hP,hY,hZ,gA⟩:=bw
  repeat' (first
 | simp only [go_sem,hP,hY,hZ,gA,c1]
 | (with_reducible first | refine br fun hc=> ?_ | refine bt fun hc=> ?_ | refine bu (fun hc=> ?_) fun hc=> ?_) <;> (try simp only [hc,bs, ↓reduceIte]at h) <;> try simp only [hc]
 | (with_reducible refine aF hQ ?_;(try cases h);simp only [az,aB,bB,bC,go_sem,hP,hY,hZ,gA,c1];try exact pV)
 | (cases h;done))
 | false=>
  rw [if_neg (by simp)]
  cases c2:t==b with
  | true=>
   rw [if_pos rfl]
   refine aD.go qN rfl fun B Q hB hQ=> ?_
   have⟨hP,hY,hZ,gA⟩:=bw
   repeat' (first
 | simp only [go_sem,hP,hY,hZ,gA,c1,c2]
 | (with_reducible first | refine br fun hc=> ?_ | refine bt fun hc=> ?_ | refine bu (fun hc=> ?_) fun hc=> ?_) <;> (try simp only [hc,bs, ↓reduceIte]at h) <;> try simp only [hc]
 | (with_reducible refine aF hQ ?_;(try cases h);simp only [az,aB,bB,bC,go_sem,hP,hY,hZ,gA,c1,c2];try exact pV)
 | (cases h;done))
  | false=>
   rw [if_neg (by simp)]
   refine aD.go qN rfl fun B Q hB hQ=> ?_
   have⟨hP,hY,hZ,gA⟩:=bw
   repeat' (first
 | simp only [go_sem,hP,hY,hZ,gA,c1,c2]
 | (with_reducible first | refine br fun hc=> ?_ | refine bt fun hc=> ?_ | refine bu (fun hc=> ?_) fun hc=> ?_) <;> (try simp only [hc,bs, ↓reduceIte]at h) <;> try simp only [hc]
 | (with_reducible refine aF hQ ?_;(try cases h);simp only [az,aB,bB,bC,go_sem,hP,hY,hZ,gA,c1,c2];try exact pV)
 | (cases h;done))
theorem ri (a b:ay) {l:List ay} (hl:l.length≤10000000) (s:St):aD Tryz.prog jg [.slice .shared 1 (l.map encStr), .str a, .str b] s (.slice .shared 1 ((l.map (ct a b)).map encStr)) s:=by
 refine aD.pure ?_ (by simp [D.bJ,D.ok,eD,Tag.ok]) (by rw [D.ok,eD];rfl) s
 have ho:=fun t s=>Ag a b t s
 unfold S0
 generalize hR:l.map (ct a b)=R
 refine aD.go yZ rfl fun B Q hB hQ=> ?_
 have⟨hP,hY,hZ,gA⟩:=bw
 repeat' (first
 | simp only [go_sem,hP,hY,hZ,gA]
 | (with_reducible first | refine br fun hc=> ?_ | refine bt fun hc=> ?_ | refine bu (fun hc=> ?_) fun hc=> ?_) <;> (try simp only [hc,bs, ↓reduceIte]at h) <;> try simp only [hc]
 | (with_reducible refine aF hQ ?_;exact lG)
 | (cases h;done))
 refine bj.nT 7 1 rfl ?_
 simp only [go_sem,hP,hY,hZ,gA]
 refine cM 0 1 (bj.ind (ι:=List ay×Nat×List ay) (fun i=>l.drop i.2.1=i.1∧i.2.1=i.2.2.length∧i.2.2++i.1.map (ct a b)=R) (fun i=>i.1.length)
  (fun i=> [(1, .str a),(2, .str b),(7, .slice (.tok 0) 1 (i.2.2.map encStr)),(10, .slice .shared 1 (l.map encStr)),(11, .int .i64 (l.length:Int)),(12, .int .i64 (i.2.1:Int))]) (fun i=>⟨[],[some i.2.1]⟩) ?_ (l,0,[]) ⟨rfl,rfl,hR⟩)
 rintro⟨rest,k,acc⟩ ⟨h1,h2,h3⟩ IH
 dsimp only at h1 h2 h3
 subst h2
 cases rest with
 | nil=>
  have hP:=drop_nil h1
  simp only [List.map_nil,List.append_nil]at h3
  subst h3
  repeat' (first
 | simp only [go_sem,hP,hY,hZ,gA]
 | (with_reducible first | refine br fun hc=> ?_ | refine bt fun hc=> ?_ | refine bu (fun hc=> ?_) fun hc=> ?_) <;> (try simp only [hc,bs, ↓reduceIte]at h) <;> try simp only [hc]
 | (with_reducible refine aF hQ ?_;exact lG)
 | (cases h;done))
 | cons t rest=>
  obtain⟨hY,g2,hP,g4⟩:=drop_cons h1
  have hZ:(acc.length+1)*17≤bx:=by unfold bx;omega
  have w1:IntKind.wrap .i64 ((acc.length:Int)+1)=((acc.length+1:Nat):Int):=by rw [cY] <;> omega
  repeat' (first
 | simp only [go_sem,hP,hY,hZ,gA,w1]
 | (with_reducible refine CU (ho _ _) ?_)
 | (with_reducible first | refine br fun hc=> ?_ | refine bt fun hc=> ?_ | refine bu (fun hc=> ?_) fun hc=> ?_) <;> (try simp only [hc,bs, ↓reduceIte]at h) <;> try simp only [hc]
 | (with_reducible refine aF hQ ?_;(try cases h);simp only [az,aB,bB,bC,go_sem,hP,hY,hZ,gA,w1];try exact pV)
 | (cases h;done))
  refine cM 0 1 (IH (rest,acc.length+1,acc++ [ct a b t]) ⟨g2,by simp,by rw [← h3];simp⟩ (by simp))
theorem Mu (a b:ay) : ∀ n,n<1073741824→∀ x:Ex,x.size≤n→aD Tryz.prog iF [.agg (bo x), .str a, .str b] S0 (.agg (bo (x.swap a b))) S0:=by
 intro n
 induction n with
 | zero=>rintro _ ⟨op,m,name,kids⟩ h;simp only [Ex.size]at h;omega
 | succ n Oi=>
 rintro hn ⟨op,m,name,kids⟩ hx
 have hk : ∀ y∈kids,∀ s,aD Tryz.prog iF [.agg (bo y), .str a, .str b] s (.agg (bo (y.swap a b))) s:=fun y hy s=>
  (Oi (by omega) y (by simp only [Ex.size]at hx;have:=Ex.bW hy;omega)).pure (by simp [D.bJ,D.ok,fW]) (by simp [D.ok,fW]) s
 have hlen:kids.length<1073741824:=by simp only [Ex.size]at hx;have:=Ex.da kids;omega
 have ho:=fun t s=>Ag a b t s
 have e:Ex.swap a b ⟨op,m,name,kids⟩ = ⟨op,m,ct a b name,kids.map (Ex.swap a b)⟩:=by simp only [Ex.swap,zw]
 rw [e]
 generalize hR:kids.map (Ex.swap a b)=R
 unfold S0
 refine aD.go Ao rfl fun B Q hB hQ=> ?_
 have⟨hP,hY,hZ,gA⟩:=bw
 repeat' (first
 | simp only [go_sem,hP,hY,hZ,gA]
 | (with_reducible refine CU (ho _ _) ?_)
 | (with_reducible first | refine br fun hc=> ?_ | refine bt fun hc=> ?_ | refine bu (fun hc=> ?_) fun hc=> ?_) <;> (try simp only [hc,bs, ↓reduceIte]at h) <;> try simp only [hc]
 | (with_reducible refine aF hQ ?_;exact lG)
 | (cases h;done))
 refine bj.pb 2 3 4 rfl rfl ?_
 simp only [go_sem,hP,hY,hZ,gA]
 refine cM 3 1 (bj.ind (ι:=List Ex×Nat×List Ex) (fun i=>kids.drop i.2.1=i.1∧i.2.1=i.2.2.length∧i.2.2++i.1.map (Ex.swap a b)=R) (fun i=>i.1.length)
  (fun i=> [(1, .str a),(2, .str b),(3, .ptr 0 0),(6, .ptr 1 0),(7, .ptr 2 0),(21, .int .i64 (kids.length:Int)),(22, .int .i64 (i.2.1:Int))])
  (fun i=>⟨[bo ⟨op,m,name,kids⟩,bo ld,[.int .i64 op, .int .i64 m, .str (ct a b name), .slice (.tok 0) 4 (i.2.2.map bo)]],[some i.2.1]⟩) ?_ (kids,0,[]) ⟨rfl,rfl,hR⟩)
 rintro⟨rest,k,acc⟩ ⟨h1,h2,h3⟩ IH
 dsimp only at h1 h2 h3
 subst h2
 cases rest with
 | nil=>
  have hP:=drop_nil h1
  simp only [List.map_nil,List.append_nil]at h3
  subst h3
  repeat' (first
 | simp only [go_sem,hP,hY,hZ,gA]
 | (with_reducible first | refine br fun hc=> ?_ | refine bt fun hc=> ?_ | refine bu (fun hc=> ?_) fun hc=> ?_) <;> (try simp only [hc,bs, ↓reduceIte]at h) <;> try simp only [hc]
 | (with_reducible refine aF hQ ?_;exact lG)
 | (cases h;done))
 | cons y rest=>
  obtain⟨hY,g2,hP,g4⟩:=drop_cons h1
  have eU:(acc.length+1)*57≤bx:=by simp only [bx];omega
  have hy:=hk y (List.mem_of_getElem? hY)
  have w1:IntKind.wrap .i64 ((acc.length:Int)+1)=((acc.length+1:Nat):Int):=by rw [cY] <;> omega
  repeat' (first
 | simp only [go_sem,hP,hY,hZ,gA,eU,w1]
 | (with_reducible refine CU (hy _) ?_)
 | (with_reducible first | refine br fun hc=> ?_ | refine bt fun hc=> ?_ | refine bu (fun hc=> ?_) fun hc=> ?_) <;> (try simp only [hc,bs, ↓reduceIte]at h) <;> try simp only [hc]
 | (with_reducible refine aF hQ ?_;(try cases h);simp only [az,aB,bB,bC,go_sem,hP,hY,hZ,gA,eU,w1];try exact pV)
 | (cases h;done))
  refine cM 3 1 (IH (rest,acc.length+1,acc++ [y.swap a b]) ⟨g2,by simp,by rw [← h3];simp⟩ (Nat.lt_succ_self _))
theorem CH (a b:ay) {x:Ex} (h:x.size<1073741824) (s:St):aD Tryz.prog iF [.agg (bo x), .str a, .str b] s (.agg (bo (x.swap a b))) s:=
 (Mu a b x.size h x (Nat.le_refl _)).pure (by simp [D.bJ,D.ok,fW]) (by simp [D.ok,fW]) s
end Go.Abs

/-! Swap3 -/

namespace Go.Abs
set_option maxRecDepth 8000
open Go.Proofs
abbrev PN (a b:ay) (N:Nat):Prop:=∀ l:List Sm,Sm.aW l<N→∀ s:St,aD Tryz.prog ij [.slice .shared 13 (l.map bd), .str a, .str b] s (.slice .shared 13 ((Sm.cP a b l).map bd)) s
theorem PO (a b:ay) {N:Nat} (hN:N<10000000) (ih:PN a b N) (l:List Sm) (hl:Sm.aW l<N+1) :
 aD Tryz.prog ij [.slice .shared 13 (l.map bd), .str a, .str b] S0 (.slice .shared 13 ((Sm.cP a b l).map bd)) S0:=by
 have hlen:l.length<10000001:=by have:=Sm.da l;omega
 have ho:=fun t s=>Ag a b t s
 generalize hR:Sm.cP a b l=R
 unfold S0
 refine aD.go za rfl fun B Q hB hQ=> ?_
 have⟨hP,hY,hZ,gA⟩:=bw
 repeat' (first
 | simp only [go_sem,hP,hY,hZ,gA]
 | (with_reducible first | refine br fun hc=> ?_ | refine bt fun hc=> ?_ | refine bu (fun hc=> ?_) fun hc=> ?_) <;> (try simp only [hc,bs, ↓reduceIte]at h) <;> try simp only [hc]
 | (with_reducible refine aF hQ ?_;exact lG)
 | (cases h;done))
 refine bj.nT 7 13 rfl ?_
 simp only [go_sem,hP,hY,hZ,gA]
 refine cM 0 1 (bj.ind (ι:=List Sm×Nat×List Sm) (fun i=>l.drop i.2.1=i.1∧i.2.1=i.2.2.length∧i.2.2++Sm.cP a b i.1=R) (fun i=>i.1.length)
  (fun i=> [(1, .str a),(2, .str b),(7, .slice (.tok 0) 13 (i.2.2.map bd)),(13, .slice .shared 13 (l.map bd)),(14, .int .i64 (l.length:Int)),(15, .int .i64 (i.2.1:Int))])
  (fun i=>⟨[],[some i.2.1]⟩) ?_ (l,0,[]) ⟨rfl,rfl,hR⟩)
 rintro⟨rest,k,acc⟩ ⟨h1,h2,h3⟩ IH
 dsimp only at h1 h2 h3
 subst h2
 cases rest with
 | nil=>
  have hP:=drop_nil h1
  simp only [Sm.cP,List.append_nil]at h3
  subst h3
  repeat' (first
 | simp only [go_sem,hP,hY,hZ,gA]
 | (with_reducible first | refine br fun hc=> ?_ | refine bt fun hc=> ?_ | refine bu (fun hc=> ?_) fun hc=> ?_) <;> (try simp only [hc,bs, ↓reduceIte]at h) <;> try simp only [hc]
 | (with_reducible refine aF hQ ?_;exact lG)
 | (cases h;done))
 | cons y rest=>
  obtain⟨hY,g2,hP,g4⟩:=drop_cons h1
  have hk:acc.length<4611686018427387904:=by omega
  have ew:y.size≤N:=by have:=Sm.bW (List.mem_of_getElem? hY);omega
  obtain⟨id,kind,labels,name,proc,x,has,args,aY,aT⟩:=y
  simp only [Sm.size]at ew
  have eU:(acc.length+1)*209≤bx:=by simp only [bx];omega
  have xU:=Ar.da args
  have hx:=fun s=>CH a b (x:=x) (by omega) s
  simp only [fO]at hx
  have hL:=fun s=>ri a b (l:=labels) (by omega) s
  repeat' (first
 | simp only [go_sem,hP,hY,hZ,gA]
 | (with_reducible refine CU (hL _) ?_)
 | (with_reducible refine CU (ho _ _) ?_)
 | (with_reducible refine CU (hx _) ?_)
 | (with_reducible first | refine br fun hc=> ?_ | refine bt fun hc=> ?_ | refine bu (fun hc=> ?_) fun hc=> ?_) <;> (try simp only [hc,bs, ↓reduceIte]at h) <;> try simp only [hc]
 | (with_reducible refine aF hQ ?_;exact lG)
 | (cases h;done))
  refine bj.pb 1 10 6 rfl rfl ?_
  simp only [go_sem,hP,hY,hZ,gA]
  generalize hLB:labels.map (ct a b)=Ae
  generalize hX:x.swap a b=x'
  refine cM 2 2 (bj.ind (ι:=List Ar×Nat×List Ar) (fun i=>args.drop i.2.1=i.1∧i.2.1=i.2.2.length∧i.2.2++i.1.map (Ar.swap a b)=args.map (Ar.swap a b)) (fun i=>i.1.length)
   (fun i=> [(1, .str a),(2, .str b),(7, .slice (.tok 0) 13 (acc.map bd)),(9, .ptr 0 0),(10, .ptr 1 0),(13, .slice .shared 13 (l.map bd)),(14, .int .i64 (l.length:Int)),(15, .int .i64 (acc.length:Int)),
    (47, .slice .shared 6 (args.map dR)),(48, .int .i64 (args.length:Int)),(49, .int .i64 (i.2.1:Int))])
   (fun i=>⟨[bd ⟨id,kind,labels,name,proc,x,has,args,aY,aT⟩,[.int .i64 id, .int .i64 kind, .slice .shared 1 (Ae.map encStr), .str (ct a b name), .str (ct a b proc), .int .i64 x'.op, .int .i64 x'.n, .str x'.name, .slice .shared 4 (x'.kids.map bo), .bool has, .slice (.tok 1) 6 (i.2.2.map dR), .slice .full 0 [], .slice .full 0 []]],[some acc.length,some i.2.1]⟩) ?_ (args,0,[]) ⟨rfl,rfl,rfl⟩)
  rintro⟨qk,ka,mJ⟩ ⟨j1,j2,j3⟩ OS
  dsimp only at j1 j2 j3
  subst j2
  cases qk with
  | nil=>
   have hP:=drop_nil j1
   simp only [List.map_nil,List.append_nil]at j3
   have c1:=ih aY (by omega)
   have c2:=ih aT (by omega)
   have e:Sm.swap a b ⟨id,kind,labels,name,proc,x,has,args,aY,aT⟩ = ⟨id,kind,Ae,ct a b name,ct a b proc,x',has,mJ,Sm.cP a b aY,Sm.cP a b aT⟩:=by simp only [Sm.swap,hLB,hX,j3]
   repeat' (first
 | simp only [go_sem,hP,hY,hZ,gA,eU]
 | (with_reducible refine CU (c1 _) ?_)
 | (with_reducible refine CU (c2 _) ?_)
 | (with_reducible first | refine br fun hc=> ?_ | refine bt fun hc=> ?_ | refine bu (fun hc=> ?_) fun hc=> ?_) <;> (try simp only [hc,bs, ↓reduceIte]at h) <;> try simp only [hc]
 | (with_reducible refine aF hQ ?_;(try cases h);simp only [az,aB,bB,bC,go_sem,hP,hY,hZ,gA,eU];try exact pV)
 | (cases h;done))
   refine eo 0 1 ?_ ?_ (IH (rest,acc.length+1,acc++ [Sm.swap a b ⟨id,kind,labels,name,proc,x,has,args,aY,aT⟩]) ⟨g2,by simp,by rw [← h3];simp [Sm.cP]⟩ (Nat.lt_succ_self _))
   ·(simp only [go_sem,hP,hY,hZ,gA,aN hk,e];try exact bQ)
   ·(simp only [go_sem,hP,hY,hZ,gA,aN hk,e];try exact bQ)
  | cons c qk=>
   obtain⟨hY,g2,hP,g4⟩:=drop_cons j1
   have ha:c.x.size<1073741824:=by have:=Ar.bW (List.mem_of_getElem? hY);omega
   have uz:mJ.length<4611686018427387904:=by
    have:=congrArg List.length j3
    simp at this;omega
   have tU:(mJ.length+1)*81≤bx:=by
    have:=congrArg List.length j3
    simp at this;simp only [bx];omega
   have OT:=fun s=>CH a b ha s
   simp only [fO]at OT
   obtain⟨R6,L0,ax⟩:=c
   repeat' (first
 | simp only [go_sem,hP,hY,hZ,gA,tU]
 | (with_reducible refine CU (OT _) ?_)
 | (with_reducible refine CU (ho _ _) ?_)
 | (with_reducible first | refine br fun hc=> ?_ | refine bt fun hc=> ?_ | refine bu (fun hc=> ?_) fun hc=> ?_) <;> (try simp only [hc,bs, ↓reduceIte]at h) <;> try simp only [hc]
 | (with_reducible refine aF hQ ?_;(try cases h);simp only [az,aB,bB,bC,go_sem,hP,hY,hZ,gA,tU];try exact pV)
 | (cases h;done))
   refine eo 2 2 ?_ ?_ (OS (qk,mJ.length+1,mJ++ [⟨R6,ct a b L0,ax.swap a b⟩]) ⟨g2,by simp,by simp only [List.append_assoc,List.cons_append,List.nil_append];exact j3⟩ (Nat.lt_succ_self _))
   ·(simp only [go_sem,hP,hY,hZ,gA,aN uz];try exact bQ)
   ·(simp only [go_sem,hP,hY,hZ,gA,aN uz];try exact bQ)
theorem SM (a b:ay) : ∀ N,N<10000000→PN a b N:=by
 intro N
 induction N with
 | zero=>intro _ l hl;exact absurd hl (Nat.not_lt_zero _)
 | succ N ih=>
  intro hN l hl s
  exact(PO a b (by omega) (ih (by omega)) l hl).pure (by simp [D.bJ,D.ok,Tag.ok,lM]) (by simp [D.bJ,D.ok,Tag.ok,lM]) s
theorem I5 (a b:ay) {l:List Sm} (h:Sm.aW l<9000000) (s:St):aD Tryz.prog ij [.slice .shared 13 (l.map bd), .str a, .str b] s (.slice .shared 13 ((Sm.cP a b l).map bd)) s:=
 SM a b 9999999 (by omega) l (by omega) s
theorem aaB (a b:ay) {p:Pg} (hp:p.size<1000000) (st:St):aD Tryz.prog vy [.agg (cd p), .str a, .str b] st (.agg (cd (p.swap a b))) st:=by
 refine aD.pure ?_ (by simp [D.bJ,D.ok,iR]) (by simp [D.ok,iR]) st
 obtain⟨globals,procs⟩:=p
 simp only [Pg.size]at hp
 have hlen:procs.length<1000000:=by have:=Pc.da procs;omega
 have hG:=fun s=>ri a b (l:=globals) (by omega) s
 have ho:=fun t s=>Ag a b t s
 have e:Pg.swap a b ⟨globals,procs⟩ = ⟨globals.map (ct a b),procs.map (Pc.swap a b)⟩:=rfl
 rw [e]
 generalize hR:procs.map (Pc.swap a b)=R
 unfold S0
 refine aD.go E1 rfl fun B Q hB hQ=> ?_
 have⟨hP,hY,hZ,gA⟩:=bw
 repeat' (first
 | simp only [go_sem,hP,hY,hZ,gA]
 | (with_reducible refine CU (hG _) ?_)
 | (with_reducible first | refine br fun hc=> ?_ | refine bt fun hc=> ?_ | refine bu (fun hc=> ?_) fun hc=> ?_) <;> (try simp only [hc,bs, ↓reduceIte]at h) <;> try simp only [hc]
 | (with_reducible refine aF hQ ?_;exact lG)
 | (cases h;done))
 generalize globals.map (ct a b)=Ia at *
 refine bj.pb 2 1 5 rfl rfl ?_
 simp only [go_sem,hP,hY,hZ,gA]
 refine cM 3 1 (bj.ind (ι:=List Pc×Nat×List Pc) (fun i=>procs.drop i.2.1=i.1∧i.2.1=i.2.2.length∧i.2.2++i.1.map (Pc.swap a b)=R) (fun i=>i.1.length)
  (fun i=> [(1, .str a),(2, .str b),(6, .ptr 1 0),(7, .ptr 2 0),(20, .slice .shared 5 (procs.map cA)),(21, .int .i64 (procs.length:Int)),(22, .int .i64 (i.2.1:Int))])
  (fun i=>⟨[cd ⟨globals,procs⟩,cd yL,[.slice .shared 1 (Ia.map encStr), .slice (.tok 0) 5 (i.2.2.map cA)]],[some i.2.1]⟩) ?_ (procs,0,[]) ⟨rfl,rfl,hR⟩)
 rintro⟨rest,k,acc⟩ ⟨h1,h2,h3⟩ IH
 dsimp only at h1 h2 h3
 subst h2
 cases rest with
 | nil=>
  have hP:=drop_nil h1
  simp only [List.map_nil,List.append_nil]at h3
  subst h3
  repeat' (first
 | simp only [go_sem,hP,hY,hZ,gA]
 | (with_reducible first | refine br fun hc=> ?_ | refine bt fun hc=> ?_ | refine bu (fun hc=> ?_) fun hc=> ?_) <;> (try simp only [hc,bs, ↓reduceIte]at h) <;> try simp only [hc]
 | (with_reducible refine aF hQ ?_;exact lG)
 | (cases h;done))
 | cons y rest=>
  obtain⟨hY,g2,hP,g4⟩:=drop_cons h1
  have ew:=Pc.bW (List.mem_of_getElem? hY)
  obtain⟨name,params,vars,body,fin⟩:=y
  simp only [Pc.size]at ew
  have hk:acc.length<4611686018427387904:=by omega
  have eU:(acc.length+1)*113≤bx:=by simp only [bx];omega
  have c1:=fun s=>ri a b (l:=vars) (by omega) s
  have c2:=fun s=>ri a b (l:=fin) (by omega) s
  have c3:=fun s=>I5 a b (l:=body) (by omega) s
  repeat' (first
 | simp only [go_sem,hP,hY,hZ,gA]
 | (with_reducible refine CU (c1 _) ?_)
 | (with_reducible refine CU (c2 _) ?_)
 | (with_reducible refine CU (c3 _) ?_)
 | (with_reducible refine CU (ho _ _) ?_)
 | (with_reducible first | refine br fun hc=> ?_ | refine bt fun hc=> ?_ | refine bu (fun hc=> ?_) fun hc=> ?_) <;> (try simp only [hc,bs, ↓reduceIte]at h) <;> try simp only [hc]
 | (with_reducible refine aF hQ ?_;exact lG)
 | (cases h;done))
  generalize hV:vars.map (ct a b)=vars'
  generalize hF:fin.map (ct a b)=aaC
  refine bj.pb 4 1 2 rfl rfl ?_
  simp only [go_sem,hP,hY,hZ,gA]
  refine cM 5 2 (bj.ind (ι:=List Pm×Nat×List Pm) (fun i=>params.drop i.2.1=i.1∧i.2.1=i.2.2.length∧i.2.2++i.1.map (Pm.swap a b)=params.map (Pm.swap a b)) (fun i=>i.1.length)
   (fun i=> [(1, .str a),(2, .str b),(6, .ptr 1 0),(7, .ptr 2 0),(10, .ptr 4 0),(20, .slice .shared 5 (procs.map cA)),(21, .int .i64 (procs.length:Int)),(22, .int .i64 (acc.length:Int)),
    (48, .slice .shared 2 (params.map fE)),(49, .int .i64 (params.length:Int)),(50, .int .i64 (i.2.1:Int))])
   (fun i=>⟨[cd ⟨globals,procs⟩,cd yL,[.slice .shared 1 (Ia.map encStr), .slice (.tok 0) 5 (acc.map cA)],cA ⟨name,params,vars,body,fin⟩,
    [.str (ct a b name), .slice (.tok 1) 2 (i.2.2.map fE), .slice .shared 1 (vars'.map encStr), .slice .shared 13 ((Sm.cP a b body).map bd), .slice .shared 1 (aaC.map encStr)]],[some acc.length,some i.2.1]⟩) ?_ (params,0,[]) ⟨rfl,rfl,rfl⟩)
  rintro⟨qk,ka,mJ⟩ ⟨j1,j2,j3⟩ OS
  dsimp only at j1 j2 j3
  subst j2
  cases qk with
  | nil=>
   have hP:=drop_nil j1
   simp only [List.map_nil,List.append_nil]at j3
   have e2:Pc.swap a b ⟨name,params,vars,body,fin⟩ = ⟨ct a b name,mJ,vars',Sm.cP a b body,aaC⟩:=by simp only [Pc.swap,hV,hF,j3]
   repeat' (first
 | simp only [go_sem,hP,hY,hZ,gA,eU]
 | (with_reducible first | refine br fun hc=> ?_ | refine bt fun hc=> ?_ | refine bu (fun hc=> ?_) fun hc=> ?_) <;> (try simp only [hc,bs, ↓reduceIte]at h) <;> try simp only [hc]
 | (with_reducible refine aF hQ ?_;(try cases h);simp only [az,aB,bB,bC,go_sem,hP,hY,hZ,gA,eU];try exact pV)
 | (cases h;done))
   refine eo 3 1 ?_ ?_ (IH (rest,acc.length+1,acc++ [Pc.swap a b ⟨name,params,vars,body,fin⟩]) ⟨g2,by simp,by rw [← h3];simp⟩ (Nat.lt_succ_self _))
   ·(simp only [go_sem,hP,hY,hZ,gA,aN hk,e2];try exact bQ)
   ·(simp only [go_sem,hP,hY,hZ,gA,aN hk,e2];try exact bQ)
  | cons c qk=>
   obtain⟨hY,g2,hP,g4⟩:=drop_cons j1
   have tc:mJ.length+1≤params.length:=by
    have:=congrArg List.length j3
    simp at this;omega
   have uz:mJ.length<4611686018427387904:=by omega
   have tU:(mJ.length+1)*25≤bx:=by simp only [bx];omega
   obtain⟨adw,alT⟩:=c
   repeat' (first
 | simp only [go_sem,hP,hY,hZ,gA,tU]
 | (with_reducible refine CU (ho _ _) ?_)
 | (with_reducible first | refine br fun hc=> ?_ | refine bt fun hc=> ?_ | refine bu (fun hc=> ?_) fun hc=> ?_) <;> (try simp only [hc,bs, ↓reduceIte]at h) <;> try simp only [hc]
 | (with_reducible refine aF hQ ?_;(try cases h);simp only [az,aB,bB,bC,go_sem,hP,hY,hZ,gA,tU];try exact pV)
 | (cases h;done))
   refine eo 5 2 ?_ ?_ (OS (qk,mJ.length+1,mJ++ [⟨ct a b adw,alT⟩]) ⟨g2,by simp,by simp only [List.append_assoc,List.cons_append,List.nil_append];exact j3⟩ (Nat.lt_succ_self _))
   ·(simp only [go_sem,hP,hY,hZ,gA,aN uz];try exact bQ)
   ·(simp only [go_sem,hP,hY,hZ,gA,aN uz];try exact bQ)
end Go.Abs

/-! BeqEq -/

namespace Go.Abs
end Go.Abs

/-! LawPr7 -/

namespace Go.Abs
set_option maxRecDepth 8000
open Go.Proofs
theorem SN (t:ay) (s:St):aD Tryz.prog jn [.str t] s (.bool (isName t)) s:=by
 by_cases hl:t.length<9
 ·exact wE t (by omega) s
 ·refine aD.pure ?_ rfl rfl s
  cases t with
  | nil=>simp at hl
  | cons c r=>
   simp only [List.length_cons]at hl
   have l1:decide (((r.length+1:Nat):Int)<1)=false:=by simp;omega
   have c8:decide (((r.length+1:Nat):Int) > 8)=true:=by simp;omega
   have h:isName (c::r)=false:=by simp only [isName,c8,Bool.true_or, ↓reduceIte]
   rw [h]
   unfold S0
   refine aD.go kG rfl fun B Q hB hQ=> ?_
   have⟨hP,hY,hZ,gA⟩:=bw
   repeat' (first
 | simp only [go_sem,hP,hY,hZ,gA,l1,c8]
 | (with_reducible first | refine br fun hc=> ?_ | refine bt fun hc=> ?_ | refine bu (fun hc=> ?_) fun hc=> ?_) <;> (try simp only [hc,bs, ↓reduceIte]at h) <;> try simp only [hc]
 | (with_reducible refine aF hQ ?_;(try cases h);simp only [az,aB,bB,bC,go_sem,hP,hY,hZ,gA,l1,c8];try exact pV)
 | (cases h;done))
end Go.Abs

/-! PLen -/

namespace Go.Abs
end Go.Abs

/-! Some -/

namespace Go.Abs
open Go.Proofs
def prB:Pc:=⟨[112],[⟨[120],false⟩,⟨[121],true⟩],[],[
 ⟨5,1,[],[121],[],rf 8 (jB [121]) (jB [120]),false,[],[],[]⟩,
 ⟨6,5,[],[],[],rf 12 (jB [121]) (vf 9),false,[],[⟨7,10,[],[101],[],ld,false,[],[],[]⟩],[]⟩,
 ⟨8,9,[],[],[],jB [121],true,[],[],[]⟩],[[101]]⟩
def stB:Sm:=⟨6,5,[],[],[],rf 12 (jB [121]) (vf 9),false,[],[⟨7,10,[],[101],[],ld,false,[],[],[]⟩],[]⟩
end Go.Abs

/-! Toks -/

namespace Go.Abs
set_option maxRecDepth 8000
open Go.Proofs
def JP:List Ar→Int
 | []=>0
 | a::l=>3+4*Mq a.x 2000+JP l
def Vg (s:Sm):Int:=8+2*(s.labels.length:Int)+4*Mq s.x 2000+JP s.args
def Ib:List It→Int
 | []=>0
 | i::l=>Vg i.s+Ib l
def Vh:List Pm→Int
 | []=>0
 | a::l=>(if a.ref then 1 else 0)+Vh l
def adx (f:Pc):Int:=6+2*(f.params.length:Int)+2*(f.fin.length:Int)+Vh f.params - (if f.params.length=0 then 0 else 1)+(if f.vars.length=0 then 0 else 1+2*(f.vars.length:Int))+Ib f.flat
def PQ:List Pc→Int
 | []=>0
 | f::l=>adx f+PQ l
def auq (p:Pg):Int:=(if p.globals.length=0 then 0 else 1+2*(p.globals.length:Int))+PQ p.procs
end Go.Abs

/-! Toks2 -/

namespace Go.Abs
mutual
def alU:Sm→Int
 | ⟨id,kind,labels,name,proc,x,has,args,aY,aT⟩=>Vg ⟨id,kind,labels,name,proc,x,has,args,aY,aT⟩+Ic aY+Ic aT
def Ic:List Sm→Int
 | []=>0
 | s::l=>alU s+Ic l
end
end Go.Abs

/-! LawTurn -/

namespace Go.Abs
open Go.Proofs
end Go.Abs

/-! LawCk1 -/

namespace Go.Abs
set_option maxRecDepth 8000
open Go.Proofs
theorem Fi (p:Pg) (a b:ay) (s:St):aD Tryz.prog sv [.agg (cd p), .str a, .str b] s (.bool true) s:=by
 refine aD.pure ?_ (by simp [D.bJ,D.ok,iR]) rfl s
 have h1:=fun s=>PD s
 have h2:=fun s=>aad p s
 have oV:=fun t s=>SN t s
 unfold S0
 rcases Bool.eq_false_or_eq_true (decide (p.Ad≤20000))with hw | hw
 case inr=>
  simp only [hw]at h2
  refine aD.go gb rfl fun B Q hB hQ=> ?_
  have⟨hP,hY,hZ,gA⟩:=bw
  repeat' (first
 | simp only [go_sem,hP,hY,hZ,gA]
 | (with_reducible refine CU (h1 _) ?_)
 | (with_reducible refine CU (h2 _) ?_)
 | (with_reducible refine aF hQ ?_;simp only [az,aB,Option.some.injEq,exists_eq_left',go_sem,hP,hY,hZ,gA];repeat' (first | exact Ok.out | with_reducible refine aG ?_ ?_ | (simp;done))))
 simp only [hw]at h2
 obtain⟨ew,Vi⟩:=Mf (of_decide_eq_true hw)
 have ho:p.jX:=⟨Vi,by omega⟩
 have h3:=fun s=>zH ho s
 have h6:=fun s=>Hk Vi s
 rw [z7]at h6
 have e1 : ∀ x:Int,(x==x)=true:=fun x=>by simp
 rcases Bool.eq_false_or_eq_true (isName a)with ca | ca
 case inr=>
  refine aD.go gb rfl fun B Q hB hQ=> ?_
  have⟨hP,hY,hZ,gA⟩:=bw
  repeat' (first
 | simp only [go_sem,hP,hY,hZ,gA,ca,Bool.not_false]
 | (with_reducible refine CU (h1 _) ?_)
 | (with_reducible refine CU (h2 _) ?_)
 | (with_reducible refine CU (oV _ _) ?_)
 | (with_reducible refine aF hQ ?_;simp only [az,aB,Option.some.injEq,exists_eq_left',go_sem,hP,hY,hZ,gA];repeat' (first | exact Ok.out | with_reducible refine aG ?_ ?_ | (simp;done))))
 rcases Bool.eq_false_or_eq_true (isName b)with cb | cb
 case inr=>
  refine aD.go gb rfl fun B Q hB hQ=> ?_
  have⟨hP,hY,hZ,gA⟩:=bw
  repeat' (first
 | simp only [go_sem,hP,hY,hZ,gA,ca,cb,Bool.not_true,Bool.not_false]
 | (with_reducible refine CU (h1 _) ?_)
 | (with_reducible refine CU (h2 _) ?_)
 | (with_reducible refine CU (oV _ _) ?_)
 | (with_reducible refine aF hQ ?_;simp only [az,aB,Option.some.injEq,exists_eq_left',go_sem,hP,hY,hZ,gA];repeat' (first | exact Ok.out | with_reducible refine aG ?_ ?_ | (simp;done))))
 rcases Bool.eq_false_or_eq_true (a == [109,97,105,110])with c1 | c1
 ·refine aD.go gb rfl fun B Q hB hQ=> ?_
  have⟨hP,hY,hZ,gA⟩:=bw
  repeat' (first
 | simp only [go_sem,hP,hY,hZ,gA,ca,cb,c1,Bool.not_true,Bool.not_false]
 | (with_reducible refine CU (h1 _) ?_)
 | (with_reducible refine CU (h2 _) ?_)
 | (with_reducible refine CU (oV _ _) ?_)
 | (with_reducible refine aF hQ ?_;simp only [az,aB,Option.some.injEq,exists_eq_left',go_sem,hP,hY,hZ,gA];repeat' (first | exact Ok.out | with_reducible refine aG ?_ ?_ | (simp;done))))
 rcases Bool.eq_false_or_eq_true (b == [109,97,105,110])with c2 | c2
 ·refine aD.go gb rfl fun B Q hB hQ=> ?_
  have⟨hP,hY,hZ,gA⟩:=bw
  repeat' (first
 | simp only [go_sem,hP,hY,hZ,gA,ca,cb,c1,c2,Bool.not_true,Bool.not_false]
 | (with_reducible refine CU (h1 _) ?_)
 | (with_reducible refine CU (h2 _) ?_)
 | (with_reducible refine CU (oV _ _) ?_)
 | (with_reducible refine aF hQ ?_;simp only [az,aB,Option.some.injEq,exists_eq_left',go_sem,hP,hY,hZ,gA];repeat' (first | exact Ok.out | with_reducible refine aG ?_ ?_ | (simp;done))))
 rcases Bool.eq_false_or_eq_true p.may with hm | hm
 case inr=>
  refine aD.go gb rfl fun B Q hB hQ=> ?_
  have⟨hP,hY,hZ,gA⟩:=bw
  repeat' (first
 | simp only [go_sem,hP,hY,hZ,gA,ca,cb,c1,c2,hm,Bool.not_true,Bool.not_false]
 | (with_reducible refine CU (h1 _) ?_)
 | (with_reducible refine CU (h2 _) ?_)
 | (with_reducible refine CU (oV _ _) ?_)
 | (with_reducible refine CU (h6 _) ?_)
 | (with_reducible refine aF hQ ?_;simp only [az,aB,Option.some.injEq,exists_eq_left',go_sem,hP,hY,hZ,gA];repeat' (first | exact Ok.out | with_reducible refine aG ?_ ?_ | (simp;done))))
 have fp : ∀ {t:ay},(t == [109,97,105,110])=false→t≠eQ:=fun h e=>by subst e;exact absurd h (by decide)
 have hck:=Pz ca cb (fp c1) (fp c2) p
 obtain⟨w1,w2,w3,w4⟩:=PK ca cb p
 have w5:=HL ca cb p
 rw [hm]at w5
 have hsw:=fun s=>aaB a b (p:=p) (by omega) s
 have hoq:(p.swap a b).jX:=⟨uY w5 (by omega),by omega⟩
 have h4:=fun s=>zH hoq s
 rw [hck]at h4
 generalize p.swap a b=q at *
 refine aD.go gb rfl fun B Q hB hQ=> ?_
 have⟨hP,hY,hZ,gA⟩:=bw
 repeat' (first
 | simp only [go_sem,hP,hY,hZ,gA,ca,cb,c1,c2,hm,e1,Bool.not_true,Bool.not_false]
 | (with_reducible refine CU (h1 _) ?_)
 | (with_reducible refine CU (h2 _) ?_)
 | (with_reducible refine CU (oV _ _) ?_)
 | (with_reducible refine CU (h6 _) ?_)
 | (with_reducible refine CU (hsw _) ?_)
 | (with_reducible refine CU (h3 _) ?_)
 | (with_reducible refine CU (h4 _) ?_)
 | (with_reducible refine aF hQ ?_;simp only [az,aB,Option.some.injEq,exists_eq_left',go_sem,hP,hY,hZ,gA];repeat' (first | exact Ok.out | with_reducible refine aG ?_ ?_ | (simp;done))))
end Go.Abs

/-! Join -/

namespace Go.Abs
open Go.RowKit Go.ChangeShapes Go.WideShapes
def DE (w:World) (b o:Nat):Option Value:=
 match w.cell? ⟨b,o,none⟩with
 | some v=>if v.oneCell'=true then some v else none
 | none=>none
theorem JQ {w:World} (b o:Nat) (v:Value) (h:DE w b o=some v):w.cell? ⟨b,o,none⟩=some v∧v.oneCell'=true:=by
 unfold DE at h
 split at h
 ·split at h
  ·cases h;exact⟨‹_›, ‹_›⟩
  ·cases h
 ·cases h
def zM (w:World):Map:=⟨DE w,fun _=>(0, .any),fun _=>none⟩
theorem Kept.sameAt {w w':World} (h:Kept w w') {p:MemPlace} (hp:p.block<w.heap.size):w.sameAt w' p:=by
 have hk:=h.1.2.2 p.block hp
 cases p with
 | cell b off=>
  simp only [MemPlace.block]at hk hp
  simp only [World.sameAt,World.cell?]
  split at hk
  ·rename_i c t fr c' t' fr' e e'
   rw [e,e']
   simp only [hk.2.2.2 off (fun f=>f)]
  ·rename_i es clock xN aaD e e'
   rw [e,e']
  ·rw [hk]
 | map b=>
  simp only [MemPlace.block]at hk hp
  simp only [World.sameAt]
  split at hk
  ·rename_i c t fr c' t' fr' e e'
   rw [e,e']
   obtain⟨rfl,rfl,hs,hc⟩:=hk
   have:c'=c:=by
    apply Array.ext_getElem?
    intro i
    exact hc i (fun f=>f)
   rw [this]
  ·rename_i es clock xN aaD e e'
   rcases hk with f | ⟨rfl,rfl⟩
   ·exact f.elim
   ·rw [e,e']
  ·exact hk
section
variable {P:Program} {H:Type} {enc:TypeId×Value→H} {T:TypeId→Prop}
theorem CI (K:Kids P T) (hz : ∀ {t e:TypeId},T t→P.underlying t=some (.slice e)→0<P.cellsOf e) {W W':World} (hk:Kept W W') {sp:Nat→Bool} :
 ∀ {ts:List TypeId} {vs:List Value} {ds:List (DataW H)} {ps:List MemPlace},(∀ t∈ts,T t)→(∀ p∈ps,p.block<W.heap.size)→(∀ p∈ps,sp p.block=true)→
  DataW.TrodAll enc P W 0 (fun _=>true) true ts vs ds ps→DataW.TrodAll enc P W' 0 sp true ts vs ds ps
 | [],[],[],_,_,_,_,h=>h
 | t::ts,v::vs,d::ds,ps,hT,hP,hs,⟨p,q,⟨n,h1⟩,h2,e⟩=>by
  subst e
  refine⟨p,q,⟨n,DataW.trod_stays K hz (fun f=>by cases f) (hT t (List.mem_cons_self ..)) h1 (fun x hx=>hk.sameAt (hP x (List.mem_append_left _ hx))) (fun x hx=>hs x (List.mem_append_left _ hx))⟩, ?_,rfl⟩
  exact CI K hz hk (fun t ht=>hT t (List.mem_cons_of_mem _ ht)) (fun x hx=>hP x (List.mem_append_right _ hx)) (fun x hx=>hs x (List.mem_append_right _ hx)) h2
 | [],[],_::_,_,_,_,_,h=>h.elim
 | [],_::_,_,_,_,_,_,h=>h.elim
 | _::_,[],_,_,_,_,_,h=>h.elim
 | _::_,_::_,[],_,_,_,_,h=>h.elim
theorem SO (K:Kids P T) (hz : ∀ {t e:TypeId},T t→P.underlying t=some (.slice e)→0<P.cellsOf e) {f:Func} {s:ChangeSpec} {apart fresh handsOn again:Bool} {tb:TypeId} {W W':World} {args:Array Value} {ds gs:List (DataW H)} {before:List MemPlace}
 (hT : ∀ t∈f.params.toList,T t) (hb:P.underlying tb=some .bool) (hr:f.resultTypes = #[tb]) (CA:s.vars = []) (hW:DataW.Whole enc P f.params.toList s.vars apart W args.toList ds gs before)
 (x6:s.fn H (ds++gs) = {results:= [.lit (.bool true)],args:=ds}) (hk:Kept W W'):s.post enc P f apart fresh handsOn again W args (.bool true) W':=by
 have hW':=hW
 have hP : ∀ p∈before,p.block<W.heap.size:=fun p hp=>hW.lt p hp
 obtain⟨p,q,hA,hV,rfl,hfz,hnd⟩:=hW
 rw [CA]at hV
 obtain⟨rfl,rfl⟩:=trodVars_none hV
 simp only [List.append_nil]at hP x6
 refine H6 (pa:=p) (pv:= []) hW' (fun b sp hd=> ?_) (fun sp AJ=> ?_) (fun sp AJ=> ?_) rfl hk (ok_one hr rfl (okWide_bool_mk hb _))
 ·rw [List.append_nil,x6,hr]
  exact trodAll_cons_mk (shut_bool hb _) trodAll_mk0
 ·rw [List.append_nil,x6]
  simp only [List.append_nil]at AJ
  exact CI K hz hk hT hP AJ hA
 ·rw [List.append_nil,x6,CA]
  rfl
theorem WW {f:FuncId} {args:List D} {fU:Array Value} {w:World} (h:eg P f args S0 fun d _=>d = .bool true) (hl:fU.size=args.length)
 (ha : ∀ (i:Nat) (d:D) (v:Value),args[i]? = some d→fU[i]? = some v→RD (zM w) S0 d v) (kK:Mm w):Calls P f fU w fun e w'=>e = .returned (.bool true)∧Kept w w':=
 PA (G:=DE w) h JQ hl ha kK
end
end Go.Abs

/-! Join2 -/

namespace Go.Abs
open Go.RowKit Go.ChangeShapes Go.WideShapes
end Go.Abs

/-! Join3 -/

namespace Go.Abs
open Go.RowKit Go.ChangeShapes Go.WideShapes
def eR (W:World) (ds:List D) (cs:List Value):Prop:=ds.length=cs.length∧(∀ (i:Nat) (d:D) (v:Value),ds[i]? = some d→cs[i]? = some v→RD (zM W) S0 d v)∧∀ v∈cs,v.oneCell'=true
theorem eR.one {W:World} {d:D} {v:Value} (h:RD (zM W) S0 d v) (hv:v.oneCell'=true):eR W [d] [v]:=by
 refine⟨rfl,fun i d' v' h1 h2=> ?_,fun u hu=>by simp at hu;subst hu;exact hv⟩
 cases i with
 | zero=>simp at h1 h2;subst h1 h2;exact h
 | succ i=>simp at h1
theorem eR.app {W:World} {ds nn:List D} {cs iO:List Value} (h:eR W ds cs) (h':eR W nn iO):eR W (ds++nn) (cs++iO):=by
 obtain⟨a1,a2,a3⟩:=h
 obtain⟨b1,b2,b3⟩:=h'
 refine⟨by simp [a1,b1],fun i d v h1 h2=> ?_,fun v hv=> ?_⟩
 ·by_cases hi:i<ds.length
  ·rw [List.getElem?_append_left hi]at h1
   rw [List.getElem?_append_left (by omega)]at h2
   exact a2 i d v h1 h2
  ·rw [List.getElem?_append_right (by omega)]at h1
   rw [List.getElem?_append_right (by omega), ← a1]at h2
   exact b2 _ d v h1 h2
 ·rcases List.mem_append.1 hv with hv | hv
  ·exact a3 v hv
  ·exact b3 v hv
theorem eR.at {W:World} {ds nn:List D} {cs:List Value} {o n:Nat} (h:eR W ds ((cs.drop o).take n)) (h':eR W nn (cs.drop (o+n))):eR W (ds++nn) (cs.drop o):=by
 have e:cs.drop o=(cs.drop o).take n++cs.drop (o+n):=by rw [← List.drop_drop,List.take_append_drop]
 rw [e]
 exact h.app h'
theorem eR.end {W:World} {cs:List Value} {o:Nat} (h:cs.length=o):eR W [] (cs.drop o):=by
 rw [← h,List.drop_length]
 exact⟨rfl,fun i d v h=>by simp at h,fun v hv=>by cases hv⟩
section
variable {H:Type} {enc:TypeId×Value→H} {P:Program} {W:World} {sp:Nat→Bool}
def structOf (P:Program) (t:TypeId):List (TypeId×Nat):=
 match P.underlying t with
 | some (.struct fs)=>fs.toList.map fun f=>(f.type,f.offset)
 | _=> []
theorem kY {t:TypeId} {l:List (TypeId×Nat)} {fuel:Nat} {cs:List Value} {x:DataW H×List MemPlace} (h:structOf P t=l) (fp:l≠ []) (ht:DataW.trod enc P W 0 sp true fuel t cs=some x) :
 ∃ n,fuel=n+1∧cs.length=P.cellsOf t∧∀ (i:Nat) (f:TypeId×Nat),l[i]? = some f→∃ y,DataW.trod enc P W 0 sp true n f.1 ((cs.drop f.2).take (P.cellsOf f.1))=some y:=by
 unfold structOf at h
 split at h
 ·rename_i fs hu
  obtain⟨xs,n,e,_,hl,hlen,hf⟩:=DataW.trod_struct hu ht
  refine⟨n,e,hl,fun i f hi=> ?_⟩
  subst h
  rw [List.getElem?_map,Option.map_eq_some_iff]at hi
  obtain⟨g,hg,rfl⟩:=hi
  have Gi:fs[i]? = some g:=by simpa using hg
  have hi:i<xs.length:=by rw [hlen];exact(Array.getElem?_eq_some_iff.1 Gi).1
  exact⟨xs[i],by rw [hf i g Gi,List.getElem?_eq_getElem hi]⟩
 ·exact absurd h.symm fp
theorem Fk {t:TypeId} {l:List (TypeId×Nat)} (h:structOf P t=l) (fp:l≠ []) : ∃ fs,P.underlying t=some (.struct fs):=by
 unfold structOf at h
 split at h
 ·exact⟨_, ‹_›⟩
 ·exact absurd h.symm fp
theorem AZ {α:Type} {Q:Nat→α→Prop} : ∀ n,(∀ i,i<n→∃ y,Q i y)→∃ ys:List α,ys.length=n∧∀ i y,ys[i]? = some y→Q i y
 | 0,_=>⟨[],rfl,fun i y h=>by simp at h⟩
 | n+1,h=>by
  obtain⟨ys,h1,h2⟩:=AZ n fun i hi=>h i (by omega)
  obtain⟨y,hy⟩:=h n (by omega)
  refine⟨ys++ [y],by simp [h1],fun i z hz=> ?_⟩
  by_cases hi:i<ys.length
  ·rw [List.getElem?_append_left hi]at hz;exact h2 i z hz
  ·rw [List.getElem?_append_right (by omega)]at hz
   have:i - ys.length=0:=by
    rcases Nat.eq_zero_or_pos (i - ys.length)with h | h
    ·exact h
    ·rw [List.getElem?_eq_none (by simp only [List.length_cons,List.length_nil];omega)]at hz;cases hz
   rw [this]at hz
   simp at hz
   subst hz
   have:i=n:=by omega
   subst this
   exact hy
theorem n9 {α:Type} (en:α→List D) (good:α→Prop) {z:Nat} {t e:TypeId} {fuel:Nat} {cs:List Value} {x:DataW H×List MemPlace} (ht:P.underlying t=some (.slice e)) (hz:P.cellsOf e=z) (hz0:0<z) (hen : ∀ y,(en y).length=z)
 (hel : ∀ n<fuel,∀ cs x,DataW.trod enc P W 0 sp true n e cs=some x→∃ y,eR W (en y) cs∧good y) (h:DataW.trod enc P W 0 sp true fuel t cs=some x) :
 ∃ ys:List α,eR W [.slice .shared z (ys.map en)] cs∧∀ y∈ys,good y:=by
 rcases DataW.trod_slice ht h with ⟨rfl,_⟩ | ⟨a,len,cap,elems,rest,n,hn,rfl,_,hb,hl,hm,hlen,uv,_,_⟩
 ·exact⟨[],eR.one (.jc _ _ _ rfl trivial) rfl,fun y hy=>by cases hy⟩
 ·by_cases h0:len=0
  ·subst h0
   exact⟨[],eR.one (.mq _ _ _) rfl,fun y hy=>by cases hy⟩
  ·obtain⟨ys,hys,vv⟩:=AZ (Q:=fun i y=>good y∧∃ iO,W.cells? 0 (a.add (i*z)) z=some iO∧eR W (en y) iO) len fun i hi=>by
    have hc:=uv i hi
    rw [List.getElem?_eq_getElem (by omega),hz,Option.bind_eq_some_iff]at hc
    obtain⟨iO,h1,h2⟩:=hc
    obtain⟨y,h3,h4⟩:=hel n (by omega) _ _ h2
    exact⟨y,h4,iO,h1,h3⟩
   have cell : ∀ i y,ys[i]? = some y→∀ (j:Nat) d,(en y)[j]? = some d→∃ v,W.cell? ((a.add (i*z)).add j)=some v∧RD (zM W) S0 d v∧v.oneCell'=true:=by
    intro i y hy j d hd
    obtain⟨_,iO,h1,h2,h3,h4⟩:=vv i y hy
    obtain⟨_,k1,k2⟩:=World.cells?_some h1
    have hj:j<z:=by rw [← hen y];exact(List.getElem?_eq_some_iff.1 hd).1
    have hv:iO[j]? = some iO[j]:=List.getElem?_eq_getElem (by omega)
    exact⟨iO[j],by rw [k2 j hj,hv],h3 j d _ hd hv,h4 _ (List.getElem_mem _)⟩
   obtain⟨b,off,spot⟩:=a
   have ady:spot=none:=by
    have hy:ys[0]? = some (ys[0]'(by omega)):=List.getElem?_eq_getElem (by omega)
    obtain⟨d,hd⟩ : ∃ d,(en (ys[0]'(by omega)))[0]? = some d:=⟨_,List.getElem?_eq_getElem (show 0<(en (ys[0]'(by omega))).length by rw [hen];exact hz0)⟩
    obtain⟨v,hv,_⟩:=cell 0 _ hy 0 _ hd
    have:=World.cell?_spot hv
    simpa [Addr.add]using this
   subst ady
   have e:(ys.map en).length=len:=by simp [hys]
   have:=RD.slice (M:=zM W) (s:=S0) .shared z (ys.map en) b off cap (by omega) (fun row hr=>by obtain⟨y,_,rfl⟩:=List.mem_map.1 hr;exact hen y)
    (fun i row j d h1 h2=>by
     rw [List.getElem?_map,Option.map_eq_some_iff]at h1
     obtain⟨y,h1,rfl⟩:=h1
     obtain⟨v,hv,_,h4⟩:=cell i y h1 j d h2
     rw [add_plain,add_plain]at hv
     refine⟨v, ?_⟩
     show DE W b (off+(i*z+j))=_
     unfold DE
     rw [show off+(i*z+j)=off+i*z+j by omega,hv]
     simp [h4])
    (fun i row j d u h1 h2 hu=>by
     rw [List.getElem?_map,Option.map_eq_some_iff]at h1
     obtain⟨y,h1,rfl⟩:=h1
     obtain⟨v,hv,h3,h4⟩:=cell i y h1 j d h2
     rw [add_plain,add_plain]at hv
     obtain⟨hu,_⟩:=JQ _ _ _ hu
     rw [show off+(i*z+j)=off+i*z+j by omega,hv]at hu
     cases hu
     exact h3) trivial
   rw [e]at this
   refine⟨ys,eR.one this rfl,fun y hy=> ?_⟩
   obtain⟨i,hi⟩:=List.getElem?_of_mem hy
   exact(vv i y hi).1
theorem CJ {t:TypeId} {fuel:Nat} {cs:List Value} {x:DataW H×List MemPlace} (ht:P.underlying t=some (.int .i64)) (h:DataW.trod enc P W 0 sp true fuel t cs=some x) : ∃ n:Int,eR W [.int .i64 n] cs∧n≤9223372036854775807∧ -9223372036854775808≤n:=by
 obtain⟨n,rfl,_,hw⟩:=DataW.trod_int ht h
 simp [Lit.wf,IntKind.min,IntKind.max,IntKind.signed,IntKind.bits]at hw
 exact⟨n,eR.one (.int _ _) rfl,by omega,by omega⟩
theorem DF {t:TypeId} {fuel:Nat} {cs:List Value} {x:DataW H×List MemPlace} (ht:P.underlying t=some .bool) (h:DataW.trod enc P W 0 sp true fuel t cs=some x) : ∃ b:Bool,eR W [.bool b] cs:=by
 obtain⟨n,rfl,_⟩:=DataW.trod_bool ht h
 exact⟨n,eR.one (.bool _) rfl⟩
theorem uc {t:TypeId} {fuel:Nat} {cs:List Value} {x:DataW H×List MemPlace} (ht:P.underlying t=some .string) (h:DataW.trod enc P W 0 sp true fuel t cs=some x) : ∃ s:ay,eR W (encStr s) cs∧s.length≤maxLen:=by
 obtain⟨s,rfl,_,hm⟩:=DataW.trod_string ht h
 obtain⟨⟨l⟩⟩:=s
 exact⟨l,eR.one (.str l) rfl,hm⟩
theorem adz {tE tI tN tS tK:TypeId} (hE:structOf P tE = [(tI,0),(tN,1),(tS,2),(tK,3)]) (hEc:P.cellsOf tE=4) (hI:P.underlying tI=some (.int .i64)) (hN:P.underlying tN=some (.int .i64)) (hS:P.underlying tS=some .string) (hK:P.underlying tK=some (.slice tE))
 (cI:P.cellsOf tI=1) (cN:P.cellsOf tN=1) (cS:P.cellsOf tS=1) (cK:P.cellsOf tK=1) :
 ∀ (fuel:Nat) (cs:List Value) (x:DataW H×List MemPlace),DataW.trod enc P W 0 sp true fuel tE cs=some x→∃ y:Ex,eR W (bo y) cs∧y.kP:=by
 intro fuel
 induction fuel using Nat.strongRecOn with
 | _ fuel ih=>
  intro cs x h
  obtain⟨n,rfl,hl,hf⟩:=kY hE (by simp) h
  obtain⟨y0,h0⟩:=hf 0 _ rfl
  obtain⟨y1,h1⟩:=hf 1 _ rfl
  obtain⟨y2,h2⟩:=hf 2 _ rfl
  obtain⟨y3,h3⟩:=hf 3 _ rfl
  dsimp only at h0 h1 h2 h3
  rw [cI]at h0
  rw [cN]at h1
  rw [cS]at h2
  rw [cK]at h3
  obtain⟨op,r0,_⟩:=CJ hI h0
  obtain⟨m,r1,hm,_⟩:=CJ hN h1
  obtain⟨s,r2,_⟩:=uc hS h2
  obtain⟨ks,r3,hg⟩:=n9 (W:=W) bo Ex.kP hK hEc (by decide) TB (fun k hk cs x hx=>ih k (by omega) cs x hx) h3
  refine⟨⟨op,m,s,ks⟩, ?_,hm, ?_⟩
  ·have:=r0.at (r1.at (r2.at (r3.at (eR.end (by rw [hl,hEc])))))
   rw [fO]
   simpa [encStr]using this
  ·clear r3
   induction ks with
   | nil=>exact trivial
   | cons k ks ihk=>exact⟨hg k (by simp),ihk fun y hy=>hg y (by simp [hy])⟩
theorem eR.agg {ds:List D} {v:Value} (h:eR W ds v.cells.toList) (hv : ∃ vs,v = .agg vs):RD (zM W) S0 (.agg ds) v:=by
 obtain⟨vs,rfl⟩:=hv
 obtain⟨h1,h2,h3⟩:=h
 have e:(Value.agg vs).cells=vs:=rfl
 rw [e]at h1 h2 h3
 refine .agg ds vs (by simpa using h1) (fun v hv=>h3 v (by simpa using hv)) fun i d v hd hv=>h2 i d v hd (by simpa using hv)
end
end Go.Abs

/-! Join4 -/

namespace Go.Abs
open Go.Proofs Go.RowKit Go.ChangeShapes Go.WideShapes
section
variable {H:Type} {enc:TypeId×Value→H} {W:World} {sp:Nat→Bool}
theorem PR (fuel:Nat) (cs:List Value) (x:DataW H×List MemPlace) (h:DataW.trod enc Tryz.prog W 0 sp true fuel 50 cs=some x) : ∃ y:Ex,eR W (bo y) cs∧y.kP:=
 adz (tE:=50) (tI:=3) (tN:=2) (tS:=9) (tK:=48) (by kernel_rfl) (by kernel_rfl) (by kernel_rfl) (by kernel_rfl) (by kernel_rfl) (by kernel_rfl) (by kernel_rfl) (by kernel_rfl) (by kernel_rfl) (by kernel_rfl) _ _ _ h
theorem WX:Tryz.prog.underlying 22=some (.slice 9):=by kernel_rfl
theorem wQ:Tryz.prog.underlying 9=some .string:=by kernel_rfl
theorem PS:Tryz.prog.underlying 3=some (.int .i64):=by kernel_rfl
theorem DG:Tryz.prog.underlying 4=some .bool:=by kernel_rfl
theorem zN:Tryz.prog.cellsOf 9=1:=by kernel_rfl
theorem aaJ:Tryz.prog.cellsOf 3=1:=by kernel_rfl
theorem DH:Tryz.prog.cellsOf 4=1:=by kernel_rfl
theorem DI:Tryz.prog.cellsOf 22=1:=by kernel_rfl
theorem Vj:Tryz.prog.cellsOf 50=4:=by kernel_rfl
theorem xJ {fuel:Nat} {cs:List Value} {x:DataW H×List MemPlace} (h:DataW.trod enc Tryz.prog W 0 sp true fuel 22 cs=some x) : ∃ l:List ay,eR W [.slice .shared 1 (l.map encStr)] cs:=by
 obtain⟨l,h,_⟩:=n9 (W:=W) encStr (fun _=>True) WX zN (by decide) (fun _=>rfl) (fun k hk cs x hx=>by
  obtain⟨s,hs,_⟩:=uc wQ hx
  exact⟨s,hs,trivial⟩) h
 exact⟨l,h⟩
theorem aaK {fuel:Nat} {cs:List Value} {x:DataW H×List MemPlace} (h:DataW.trod enc Tryz.prog W 0 sp true fuel 42 cs=some x) : ∃ y:Pm,eR W (fE y) cs:=by
 obtain⟨n,rfl,hl,hf⟩:=kY (l:= [(9,0),(4,1)]) (by kernel_rfl) (by simp) h
 have hc:Tryz.prog.cellsOf 42=2:=by kernel_rfl
 obtain⟨y0,h0⟩:=hf 0 _ rfl
 obtain⟨y1,h1⟩:=hf 1 _ rfl
 dsimp only at h0 h1
 rw [zN]at h0
 rw [DH]at h1
 obtain⟨s,r0,_⟩:=uc wQ h0
 obtain⟨b,r1⟩:=DF DG h1
 refine⟨⟨s,b⟩, ?_⟩
 have:=r0.at (r1.at (eR.end (by rw [hl,hc])))
 simpa [encStr,fE]using this
theorem aaL {fuel:Nat} {cs:List Value} {x:DataW H×List MemPlace} (h:DataW.trod enc Tryz.prog W 0 sp true fuel 123 cs=some x) : ∃ y:Ar,eR W (dR y) cs∧y.x.kP:=by
 obtain⟨n,rfl,hl,hf⟩:=kY (l:= [(4,0),(9,1),(50,2)]) (by kernel_rfl) (by simp) h
 have hc:Tryz.prog.cellsOf 123=6:=by kernel_rfl
 obtain⟨y0,h0⟩:=hf 0 _ rfl
 obtain⟨y1,h1⟩:=hf 1 _ rfl
 obtain⟨y2,h2⟩:=hf 2 _ rfl
 dsimp only at h0 h1 h2
 rw [DH]at h0
 rw [zN]at h1
 rw [Vj]at h2
 obtain⟨b,r0⟩:=DF DG h0
 obtain⟨s,r1,_⟩:=uc wQ h1
 obtain⟨e,r2,hr⟩:=PR _ _ _ h2
 refine⟨⟨b,s,e⟩, ?_,hr⟩
 have:=r0.at (r1.at (r2.at (eR.end (by rw [hl,hc]))))
 rw [fO]at this
 simpa [encStr,dR]using this
theorem xK : ∀ {l:List Sm},(∀ s∈l,s.kP)→Sm.lD l
 | [],_=>trivial
 | s::l,h=>⟨h s (List.mem_cons_self ..),xK fun t m=>h t (List.mem_cons_of_mem _ m)⟩
theorem aaM : ∀ (fuel:Nat) (cs:List Value) (x:DataW H×List MemPlace),DataW.trod enc Tryz.prog W 0 sp true fuel 53 cs=some x→∃ y:Sm,eR W (bd y) cs∧y.kP:=by
 intro fuel
 induction fuel using Nat.strongRecOn with
 | _ fuel ih=>
  intro cs x h
  obtain⟨n,rfl,hl,hf⟩:=kY (l:= [(3,0),(3,1),(22,2),(9,3),(9,4),(50,5),(4,9),(51,10),(44,11),(44,12)]) (by kernel_rfl) (by simp) h
  have hc:Tryz.prog.cellsOf 53=13:=by kernel_rfl
  have ca:Tryz.prog.cellsOf 51=1:=by kernel_rfl
  have iO:Tryz.prog.cellsOf 44=1:=by kernel_rfl
  have ua:Tryz.prog.underlying 51=some (.slice 123):=by kernel_rfl
  have us:Tryz.prog.underlying 44=some (.slice 53):=by kernel_rfl
  have ca6:Tryz.prog.cellsOf 123=6:=by kernel_rfl
  obtain⟨y0,h0⟩:=hf 0 _ rfl
  obtain⟨y1,h1⟩:=hf 1 _ rfl
  obtain⟨y2,h2⟩:=hf 2 _ rfl
  obtain⟨y3,h3⟩:=hf 3 _ rfl
  obtain⟨y4,h4⟩:=hf 4 _ rfl
  obtain⟨y5,h5⟩:=hf 5 _ rfl
  obtain⟨y6,h6⟩:=hf 6 _ rfl
  obtain⟨y7,h7⟩:=hf 7 _ rfl
  obtain⟨y8,h8⟩:=hf 8 _ rfl
  obtain⟨y9,h9⟩:=hf 9 _ rfl
  dsimp only at h0 h1 h2 h3 h4 h5 h6 h7 h8 h9
  rw [aaJ]at h0 h1
  rw [DI]at h2
  rw [zN]at h3 h4
  rw [Vj]at h5
  rw [DH]at h6
  rw [ca]at h7
  rw [iO]at h8 h9
  obtain⟨id,r0,_⟩:=CJ PS h0
  obtain⟨kind,r1,_⟩:=CJ PS h1
  obtain⟨labels,r2⟩:=xJ h2
  obtain⟨name,r3,_⟩:=uc wQ h3
  obtain⟨proc,r4,_⟩:=uc wQ h4
  obtain⟨e,r5,hr⟩:=PR _ _ _ h5
  obtain⟨b,r6⟩:=DF DG h6
  obtain⟨args,r7,ha⟩:=n9 (W:=W) dR (fun a=>a.x.kP) ua ca6 (by decide) (fun _=>rfl) (fun k hk cs x hx=>aaL hx) h7
  obtain⟨aY,r8,ht⟩:=n9 (W:=W) bd Sm.kP us hc (by decide) Fq (fun k hk cs x hx=>ih k (by omega) cs x hx) h8
  obtain⟨aT,r9,he⟩:=n9 (W:=W) bd Sm.kP us hc (by decide) Fq (fun k hk cs x hx=>ih k (by omega) cs x hx) h9
  refine⟨⟨id,kind,labels,name,proc,e,b,args,aY,aT⟩, ?_,hr,ha,xK ht,xK he⟩
  have:=r0.at (r1.at (r2.at (r3.at (r4.at (r5.at (r6.at (r7.at (r8.at (r9.at (eR.end (by rw [hl,hc])))))))))))
  rw [fO]at this
  rw [dv]
  simpa [encStr]using this
theorem aaN {fuel:Nat} {cs:List Value} {x:DataW H×List MemPlace} (h:DataW.trod enc Tryz.prog W 0 sp true fuel 46 cs=some x) : ∃ y:Pc,eR W (cA y) cs∧Sm.lD y.body:=by
 obtain⟨n,rfl,hl,hf⟩:=kY (l:= [(9,0),(43,1),(22,2),(44,3),(22,4)]) (by kernel_rfl) (by simp) h
 have hc:Tryz.prog.cellsOf 46=5:=by kernel_rfl
 have cp:Tryz.prog.cellsOf 43=1:=by kernel_rfl
 have iO:Tryz.prog.cellsOf 44=1:=by kernel_rfl
 have up:Tryz.prog.underlying 43=some (.slice 42):=by kernel_rfl
 have us:Tryz.prog.underlying 44=some (.slice 53):=by kernel_rfl
 have cp2:Tryz.prog.cellsOf 42=2:=by kernel_rfl
 have alX:Tryz.prog.cellsOf 53=13:=by kernel_rfl
 obtain⟨y0,h0⟩:=hf 0 _ rfl
 obtain⟨y1,h1⟩:=hf 1 _ rfl
 obtain⟨y2,h2⟩:=hf 2 _ rfl
 obtain⟨y3,h3⟩:=hf 3 _ rfl
 obtain⟨y4,h4⟩:=hf 4 _ rfl
 dsimp only at h0 h1 h2 h3 h4
 rw [zN]at h0
 rw [cp]at h1
 rw [DI]at h2 h4
 rw [iO]at h3
 obtain⟨name,r0,_⟩:=uc wQ h0
 obtain⟨ps,r1,_⟩:=n9 (W:=W) fE (fun _=>True) up cp2 (by decide) (fun _=>rfl) (fun k hk cs x hx=>by
  obtain⟨y,hy⟩:=aaK hx
  exact⟨y,hy,trivial⟩) h1
 obtain⟨vars,r2⟩:=xJ h2
 obtain⟨body,r3,hb⟩:=n9 (W:=W) bd Sm.kP us alX (by decide) Fq (fun k hk cs x hx=>aaM k cs x hx) h3
 obtain⟨fin,r4⟩:=xJ h4
 refine⟨⟨name,ps,vars,body,fin⟩, ?_,xK hb⟩
 have:=r0.at (r1.at (r2.at (r3.at (r4.at (eR.end (by rw [hl,hc]))))))
 simpa [encStr,cA]using this
theorem aaO {fuel:Nat} {cs:List Value} {x:DataW H×List MemPlace} (h:DataW.trod enc Tryz.prog W 0 sp true fuel 25 cs=some x) : ∃ y:Pg,eR W (cd y) cs∧y.kP:=by
 obtain⟨n,rfl,hl,hf⟩:=kY (l:= [(22,0),(23,1)]) (by kernel_rfl) (by simp) h
 have hc:Tryz.prog.cellsOf 25=2:=by kernel_rfl
 have cp:Tryz.prog.cellsOf 23=1:=by kernel_rfl
 have up:Tryz.prog.underlying 23=some (.slice 46):=by kernel_rfl
 have cp5:Tryz.prog.cellsOf 46=5:=by kernel_rfl
 obtain⟨y0,h0⟩:=hf 0 _ rfl
 obtain⟨y1,h1⟩:=hf 1 _ rfl
 dsimp only at h0 h1
 rw [DI]at h0
 rw [cp]at h1
 obtain⟨globals,r0⟩:=xJ h0
 obtain⟨procs,r1,hp⟩:=n9 (W:=W) cA (fun f=>Sm.lD f.body) up cp5 (by decide) (fun _=>rfl) (fun k hk cs x hx=>aaN hx) h1
 refine⟨⟨globals,procs⟩, ?_,hp⟩
 have:=r0.at (r1.at (eR.end (by rw [hl,hc])))
 simpa [cd]using this
end
end Go.Abs

/-! Join5 -/

namespace Go.Abs
open Go.Proofs Go.ChangeShapes Go.WideShapes Go.ChangeAt Go.RowKit
theorem zO {H:Type} {enc:TypeId×Value→H} {P:Program} {W:World} {sp:Nat→Bool} {t:TypeId} {ts:List TypeId} {ps:List MemPlace} : ∀ {l:List Value} {ds:List (DataW H)},DataW.TrodAll enc P W 0 sp true (t::ts) l ds ps→
 ∃ v l' d nn p q,l=v::l'∧ds=d::nn∧DataW.Trod enc P W 0 sp true t v d p∧DataW.TrodAll enc P W 0 sp true ts l' nn q
 | v::l,d::ds,⟨p,q,h1,h2,e⟩=>⟨v,l,d,ds,p,q,rfl,rfl,h1,h2⟩
 | [],[],h=>h.elim
 | [],_::_,h=>h.elim
 | _::_,[],h=>h.elim
theorem SP {H:Type} {enc:TypeId×Value→H} {P:Program} {W:World} {sp:Nat→Bool} {ps:List MemPlace} : ∀ {l:List Value} {ds:List (DataW H)},DataW.TrodAll enc P W 0 sp true [] l ds ps→l = []∧ds = []
 | [],[],_=>⟨rfl,rfl⟩
 | [],_::_,h=>h.elim
 | _::_,ds,h=>by cases ds <;> exact h.elim
end Go.Abs

/-! CheckSwap -/

namespace Go.Proofs.YtiopamakecmpkaaGreat.checkSwap
open Go.ChangeShapes Go.WideShapes Go.ChangeAt Go.RowKit Go.Abs
theorem own:ownKnob Tryz.prog.godebug=none:=by kernel_rfl
theorem kids:Kids Tryz.prog (· < Tryz.prog.types.size):=kids_rows (by kernel_rfl) (by kernel_rfl)
theorem full : ∀ {t e:TypeId},t<Tryz.prog.types.size→Tryz.prog.underlying t=some (.slice e)→0<Tryz.prog.cellsOf e:=fun {t e}=>slices_full_of Tryz.prog (by kernel_rfl) t e
theorem walk (w:World) (x0:Pg) (MQ:x0.kP) (v0:Value) (hv0:RD (zM w) S0 (.agg (cd x0)) v0) (x1:ByteArray) (x2:ByteArray):Calls Tryz.prog 7 #[v0, .string x1, .string x2] w fun e w'=>e = .returned (.bool true)∧Kept w w':=by
 refine WW (args:= [.agg (cd x0), .str x1.data.toList, .str x2.data.toList]) ((Fi x0 x1.data.toList x2.data.toList S0).mono fun _ _ h=>h.1) rfl ?_ (fun _ _ h=>nomatch h)
 intro i d v h1 h2
 match i,h1,h2 with
 | 0,h1,h2=>simp at h1 h2;subst h1 h2;exact hv0
 | 1,h1,h2=>simp at h1 h2;subst h1 h2;exact RD.str _
 | 2,h1,h2=>simp at h1 h2;subst h1 h2;exact RD.str _
set_option maxRecDepth 100000 in
theorem lifted (os : Os) (started : os.Started) (H : Type) (enc : TypeId × Value → H) :
   ReturnsInHanded {} Tryz.checked os 7 .any (Rows.checkSwapSpec.pre6 enc Tryz.prog Tryz.f7 Rows.checkSwapRow.domain false) (Rows.checkSwapSpec.post enc Tryz.prog Tryz.f7 false true false false) := by
 refine returnsInHanded_of_change (C := Tryz.checked) own started (by kernel_rfl) Tryz.func7
   (ChangeSpec.witness6 (enc := enc) (C := Tryz.checked) false ⟨#[], #[.agg #[.slice none 0 0, .slice none 0 0], .string ⟨#[]⟩, .string ⟨#[]⟩], []⟩ 8 (by kernel_rfl) (by kernel_rfl) (by kernel_rfl) (by kernel_rfl)) ?_
 intro W base args ds gs before adE hW lu _
 have pS : ∀ (j : Nat) t v, Tryz.f7.params[j]? = some t → args[j]? = some v → Value.okWide Tryz.prog W .any base t v := adE
 have hW' := hW
 obtain ⟨p, q, hA0, hV, rfl, hfz, hnd⟩ := hW
 have hA : DataW.TrodAll enc Tryz.prog W 0 (fun _ => true) true Tryz.f7.params.toList args.toList ds p := hA0
 rw [Tryz.params7] at hA pS
 obtain ⟨l⟩ := args
 obtain ⟨v0, l0, d0, ds0, p0, q0, e0, e0d, UZ, hA0⟩ := zO hA
 obtain ⟨v1, l1, d1, ds1, p1, q1, e1, e1d, U0, hA1⟩ := zO hA0
 obtain ⟨v2, l2, d2, ds2, p2, q2, e2, e2d, hd2, hA2⟩ := zO hA1
 obtain ⟨en, end_⟩ := SP hA2
 have el : l = [v0, v1, v2] := by rw [show l = _ from e0, e1, e2, en]
 subst el
 have ed : ds = [d0, d1, d2] := by rw [e0d, e1d, e2d, end_]
 clear e0d
 subst ed
 have hpg : ∀ (i : Nat) (v : Value), Tryz.f7.params[i]? = some 25 → (⟨[v0, v1, v2]⟩ : Array Value)[i]? = some v → ∀ {d ps}, DataW.Trod enc Tryz.prog W 0 (fun _ => true) true 25 v d ps → ∃ x : Pg, RD (zM W) S0 (.agg (cd x)) v ∧ x.kP := by
   intro i v hp hv d ps ⟨fuel, hf⟩
   obtain ⟨y, h1, h2⟩ := aaO hf
   obtain ⟨fs, BH⟩ := Fk (P := Tryz.prog) (t := 25) (l := [(22, 0), (23, 1)]) (by kernel_rfl) (by simp)
   obtain ⟨cs, e, _⟩ := okWide_struct BH (pS i 25 v (by rw [← Tryz.params7]; exact hp) hv)
   exact ⟨y, h1.agg ⟨cs, e⟩, h2⟩
 obtain ⟨x0, hv0, MQ⟩ := hpg 0 v0 (by rw [Tryz.params7]; rfl) rfl UZ
 obtain ⟨x1, rfl, rfl, rfl, _⟩ := Go.ChangeMaps.open_string Tryz.underlying9 (pS 1 _ _ rfl rfl) U0
 obtain ⟨x2, rfl, rfl, rfl, _⟩ := Go.ChangeMaps.open_string Tryz.underlying9 (pS 2 _ _ rfl rfl) hd2
 obtain ⟨rfl, rfl⟩ := trodVars_none hV
 refine (walk W x0 MQ v0 hv0 x1 x2).mono fun e W' ⟨he, hg⟩ => ?_
 subst he
 exact ⟨_, rfl, SO kids full (by rw [Tryz.params7]; decide) Tryz.underlying4 (by kernel_rfl) rfl hW' rfl hg⟩
theorem over:Rows.checkSwapRow.holds Tryz.pinned (OpenSpec.ofChange Rows.checkSwapSpec):=
 OpenClaim.holds_of_wide 7 Tryz.f7 rfl rfl rfl rfl rfl rfl rfl ⟨rfl,rfl,rfl,rfl,rfl⟩ rfl rfl rfl rfl rfl (by kernel_rfl) Tryz.func7 (by kernel_rfl)
  (of_decide_eq_true (by kernel_rfl)) (by unfold Func.isWrapper;first | (rw [if_pos (by decide +kernel)];kernel_rfl) | (rw [if_neg (by decide +kernel)];exact⟨rfl,rfl⟩))
  (fun os started H enc _=>lifted os started H enc)
theorem proved:Rows.CheckSwapSaid:=
 over
#print axioms proved
end Go.Proofs.YtiopamakecmpkaaGreat.checkSwap
