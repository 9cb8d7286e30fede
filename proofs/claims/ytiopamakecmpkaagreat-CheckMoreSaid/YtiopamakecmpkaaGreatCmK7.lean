/-
  What is proved here: part 7 of the road to the claim (Prs4, Prs5, Prs6, Lex3, MirParse, Prs7, Room1, Al4, Full1, Fits1, Fits2, MirEq, RefEq, RefEq2, LawTo1, AlP, LawAl2, SwP, MapS, RightP, MayLaw, MayLaw2, MayLaw3, SubP, Nb2, Nb3, Nb4, Jm1, Jm2, Jm3, Rj1, Ck1, LsP, CmP, CmU, Tot, Tot2, Tot3, Parsed2, RefLex2, Ref4, Ref5, Ref6, Ref7, Ref9, Ref10, Glue2, LawAll, Ck2, LawCk2, LawCk3, Join, Binds1, Join2, Join3, Join4, Join5).
  No conditions.
-/
import Derived.Test.YtiopamakecmpkaaGreatCmK6
import Derived.KernelRfl
import Derived.RowKit3
import Derived.Test.YtiopamakecmpkaaGreatRows
import Derived.WalkKit
import Derived.ProofKit
import Derived.OpenShut
import Derived.ShutString
import Derived.ChangeMaps5
import Derived.ChangeStays

set_option linter.unusedSimpArgs false
set_option linter.unusedVariables false
namespace Go.Abs
set_option maxRecDepth 8000
open Go.Proofs
theorem Tf {r:Rd} {b:Bool} (h:r.GV=some b) {s:St} {o:Nat} (ho:s.av[o]? = some (cj r)) :
 ay Tryz.prog 226 [.ptr o 0] s (.bool b) ⟨s.av.set o (cj r),s.aw⟩:=by
 refine ay.jv ?_ rfl (ff r) (ff r) rfl ho
 unfold Rd.GV at h
 refine ay.go td.h rfl fun B Q hB hQ=>?_
 have⟨hF,hP,hZ,gA⟩:=bD
 repeat' (first
 |simp only[go_sem,hF,hP,hZ,gA]
 |(rw[zas]at h;obtain⟨_,h1,h⟩:=h;first|(with_reducible refine CU (nn h1 (by with_unfolding_all rfl)) ?_))
 |(with_reducible first|refine bj fun hc=>?_|refine bk fun hc=>?_|refine bl (fun hc=>?_) fun hc=>?_)<;>(try simp only[hc,bs,↓reduceIte]at h)<;>try simp only[hc]
 |((with_reducible refine az hQ ?_);exact dv))
theorem ZF {m:Nat} {name proc:aA} {r:Rd} {p:Sm×Rd} (h:Rd.call m name proc r=some p) {s:St} {o:Nat} (ho:s.av[o]? = some (cj r)) :
 ay Tryz.prog 239 [.ptr o 0, .str name, .str proc] s (.agg (aH p.1)) ⟨s.av.set o (cj p.2),s.aw⟩:=by
 refine ay.jv ?_ rfl (ff r) (ff p.2) (by simp[D.ok,il]) ho
 unfold Rd.call Rd.other at h
 refine ay.go vx.h rfl fun B Q hB hQ=>?_
 have⟨hF,hP,hZ,gA⟩:=bD
 repeat' (first
 |simp only[go_sem,hF,hP,hZ,gA]
 |(rw[zas]at h;obtain⟨_,h1,h⟩:=h;first|(with_reducible refine CU (om h1 (by with_unfolding_all rfl)) ?_)|(with_reducible refine CU (yq h1 (by with_unfolding_all rfl)) ?_))
 |(with_reducible refine CU (jG (by with_unfolding_all rfl)) ?_)
 |(with_reducible first|refine bj fun hc=>?_|refine bk fun hc=>?_|refine bl (fun hc=>?_) fun hc=>?_)<;>(try simp only[hc,bs,↓reduceIte]at h)<;>try simp only[hc]
 |((with_reducible refine az hQ ?_);exact dv)
 |(cases h;replace h:=hr;clear hr;(try simp only[bs,↓reduceIte]at h))
 |(cases h;done))
 rw[zas]at h
 obtain⟨q,h,hr⟩:=h
 refine aY.qk 2 10 6 rfl rfl ?_
 simp only[go_sem,hF,hP,hZ,gA]
 refine cr 3 1 (aY.ind (ι:=Nat×List Ar×Rd×Nat) (fun i=>Rd.wv m i.1 i.2.1 i.2.2.1=some q∧i.2.2.2=i.2.1.length) (fun i=>i.1)
  (fun i=> [(0, .ptr 0 0),(6, .ptr 1 0),(7, .ptr 2 0)]) (fun i=>⟨[cj i.2.2.1,aH DU,[.int .i64 0, .int .i64 4, .slice .shared 1 [], .str name, .str proc, .int .i64 0, .int .i64 0, .str [], .slice .shared 4 [], .bool false, .slice (.tok 0) 6 (i.2.1.map dz), .slice .shared 13 [], .slice .shared 13 []]],[some i.2.2.2]⟩) ?_ (m,[],_,0) ⟨h,rfl⟩)
 rintro⟨n,l,r,k⟩ ⟨h,hk⟩ IH
 dsimp only at hk;subst hk
 cases n with
 |zero=>simp only[Rd.wv]at h;cases h
 |succ n=>
  simp only[Rd.wv]at h
  repeat' (first
 |simp only[go_sem,hF,hP,hZ,gA]
 |(rw[zas]at h;obtain⟨_,h1,h⟩:=h;first|(with_reducible refine CU (rk h1 (by with_unfolding_all rfl)) ?_)|(obtain⟨hZ,nW⟩:=ng h1;subst nW;simp only[go_sem,hF,hP,hZ,gA])|(with_reducible refine CU (vF h1 (by with_unfolding_all rfl)) ?_)|(with_reducible refine CU (zl h1 (by with_unfolding_all rfl)) ?_)|(with_reducible refine CU (om h1 (by with_unfolding_all rfl)) ?_))
 |(with_reducible refine CU (jG (by with_unfolding_all rfl)) ?_)
 |(with_reducible first|refine bj fun hc=>?_|refine bk fun hc=>?_|refine bl (fun hc=>?_) fun hc=>?_)<;>(try simp only[hc,bs,↓reduceIte]at h)<;>try simp only[hc]
 |((with_reducible refine az hQ ?_);exact dv)
 |(cases h;replace h:=hr;clear hr;(try simp only[bs,↓reduceIte]at h))
 |(cases h;done))
  ·refine cr 3 1 (IH (n,_,_,l.length+1) ⟨h,by simp⟩ (zaa _))
  ·refine cr 3 1 (IH (n,_,_,l.length+1) ⟨h,by simp⟩ (zaa _))
theorem Tg {m:Nat} {r:Rd} {p:Sm×Rd} (h:Rd.named m r=some p) {s:St} {o:Nat} (ho:s.av[o]? = some (cj r)) :
 ay Tryz.prog 227 [.ptr o 0] s (.agg (aH p.1)) ⟨s.av.set o (cj p.2),s.aw⟩:=by
 refine ay.jv ?_ rfl (ff r) (ff p.2) (by simp[D.ok,il]) ho
 unfold Rd.named Rd.ahead at h
 refine ay.go uE.h rfl fun B Q hB hQ=>?_
 have⟨hF,hP,hZ,gA⟩:=bD
 repeat' (first
 |simp only[go_sem,hF,hP,hZ,gA]
 |(rw[zas]at h;obtain⟨_,h1,h⟩:=h;first|(with_reducible refine CU (vF h1 (by with_unfolding_all rfl)) ?_)|(with_reducible refine CU (om h1 (by with_unfolding_all rfl)) ?_)|(with_reducible refine CU (yq h1 (by with_unfolding_all rfl)) ?_)|(with_reducible refine CU (nn h1 (by with_unfolding_all rfl)) ?_;have hF:=qn h1)|(obtain⟨AV,hP⟩:=yl h1;simp only[go_sem,hP,hF,hP,hZ,gA])|(with_reducible refine CU (zl h1 (by with_unfolding_all rfl)) ?_))
 |(with_reducible refine CU (jG (by with_unfolding_all rfl)) ?_)
 |(with_reducible refine CU (ZF h (by with_unfolding_all rfl)) ?_)
 |(with_reducible first|refine bj fun hc=>?_|refine bk fun hc=>?_|refine bl (fun hc=>?_) fun hc=>?_)<;>(try simp only[hc,bs,↓reduceIte]at h)<;>try simp only[hc]
 |((with_reducible refine az hQ ?_);exact dv))
theorem WM {m:Nat} {word:aA} {r:Rd} {p:Sm×Rd} (h:Rd.plain m word r=some p) {s:St} {o:Nat} (ho:s.av[o]? = some (cj r)) :
 ay Tryz.prog 231 [.ptr o 0, .str word] s (.agg (aH p.1)) ⟨s.av.set o (cj p.2),s.aw⟩:=by
 refine ay.jv ?_ rfl (ff r) (ff p.2) (by simp[D.ok,il]) ho
 unfold Rd.plain at h
 refine ay.go uG.h rfl fun B Q hB hQ=>?_
 have⟨hF,hP,hZ,gA⟩:=bD
 repeat' (first
 |simp only[go_sem,hF,hP,hZ,gA]
 |(rw[zas]at h;obtain⟨_,h1,h⟩:=h;first|(with_reducible refine CU (vF h1 (by with_unfolding_all rfl)) ?_)|(with_reducible refine CU (yq h1 (by with_unfolding_all rfl)) ?_)|(with_reducible refine CU (zl h1 (by with_unfolding_all rfl)) ?_))
 |(with_reducible first|refine bj fun hc=>?_|refine bk fun hc=>?_|refine bl (fun hc=>?_) fun hc=>?_)<;>(try simp only[hc,bs,↓reduceIte]at h)<;>try simp only[hc]
 |((with_reducible refine az hQ ?_);exact dv))
theorem PS {m:Nat} {r:Rd} {p:Ex×Rd} (h:Rd.head m r=some p) {s:St} {o:Nat} (ho:s.av[o]? = some (cj r)) :
 ay Tryz.prog 229 [.ptr o 0] s (.agg (bA p.1)) ⟨s.av.set o (cj p.2),s.aw⟩:=by
 refine ay.jv ?_ rfl (ff r) (ff p.2) (by simp[D.ok,fK]) ho
 unfold Rd.head at h
 refine ay.go vw.h rfl fun B Q hB hQ=>?_
 have⟨hF,hP,hZ,gA⟩:=bD
 repeat' (first
 |simp only[go_sem,hF,hP,hZ,gA]
 |(rw[zas]at h;obtain⟨_,h1,h⟩:=h;first|(with_reducible refine CU (om h1 (by with_unfolding_all rfl)) ?_)|(with_reducible refine CU (zl h1 (by with_unfolding_all rfl)) ?_))
 |(with_reducible first|refine bj fun hc=>?_|refine bk fun hc=>?_|refine bl (fun hc=>?_) fun hc=>?_)<;>(try simp only[hc,bs,↓reduceIte]at h)<;>try simp only[hc]
 |((with_reducible refine az hQ ?_);exact dv))
set_option maxRecDepth 8000
open Go.Proofs
abbrev HI (m n:Nat):Prop:=∀ {nest:Int} {body:Bool} {r:Rd} {p:(List Sm×List aA)×Rd},Rd.rows m n nest body r=some p→∀ {s:St} {o:Nat},s.av[o]? = some (cj r)→
 ay Tryz.prog 172 [.ptr o 0, .int .i64 nest, .bool body] s (.tuple [.slice .shared 13 (p.1.1.map aH), .slice .shared 1 (p.1.2.map encStr)]) ⟨s.av.set o (cj p.2),s.aw⟩
abbrev yQ (m n:Nat):Prop:=∀ {nest:Int} {r:Rd} {p:Sm×Rd},Rd.stmt m n nest r=some p→∀ {s:St} {o:Nat},s.av[o]? = some (cj r)→
 ay Tryz.prog 205 [.ptr o 0, .int .i64 nest] s (.agg (aH p.1)) ⟨s.av.set o (cj p.2),s.aw⟩
abbrev zv (m n:Nat):Prop:=∀ {nest:Int} {r:Rd} {p:List Sm×Rd},Rd.block m n nest r=some p→∀ {s:St} {o:Nat},s.av[o]? = some (cj r)→
 ay Tryz.prog 230 [.ptr o 0, .int .i64 nest] s (.slice .shared 13 (p.1.map aH)) ⟨s.av.set o (cj p.2),s.aw⟩
abbrev AW (m n:Nat):Prop:=∀ {nest:Int} {r:Rd} {p:Sm×Rd},Rd.choice m n nest r=some p→∀ {s:St} {o:Nat},s.av[o]? = some (cj r)→
 ay Tryz.prog 228 [.ptr o 0, .int .i64 nest] s (.agg (aH p.1)) ⟨s.av.set o (cj p.2),s.aw⟩
theorem I4 {m n:Nat} (Du:zv m n):AW m (n+1):=by
 intro nest r p h s o ho
 refine ay.jv ?_ rfl (ff r) (ff p.2) (by simp[D.ok,il]) ho
 unfold Rd.choice at h
 refine ay.go tf.h rfl fun B Q hB hQ=>?_
 have⟨hF,hP,hZ,gA⟩:=bD
 repeat' (first
 |simp only[go_sem,hF,hP,hZ,gA]
 |(rw[zas]at h;obtain⟨_,h1,h⟩:=h;first|(with_reducible refine CU (PS h1 (by with_unfolding_all rfl)) ?_)|(with_reducible refine CU (Du h1 (by with_unfolding_all rfl)) ?_)|(with_reducible refine CU (rk h1 (by with_unfolding_all rfl)) ?_))
 |(with_reducible first|refine bj fun hc=>?_|refine bk fun hc=>?_|refine bl (fun hc=>?_) fun hc=>?_)<;>(try simp only[hc,bs,↓reduceIte]at h)<;>try simp only[hc]
 |((with_reducible refine az hQ ?_);exact dv))
theorem MK {m n:Nat} (HJ:HI m n):zv m (n+1):=by
 intro nest r p h s o ho
 refine ay.jv ?_ rfl (ff r) (ff p.2) (by simp[D.ok,gR,Tag.ok]) ho
 unfold Rd.block at h
 refine ay.go uF.h rfl fun B Q hB hQ=>?_
 have⟨hF,hP,hZ,gA⟩:=bD
 repeat' (first
 |simp only[go_sem,hF,hP,hZ,gA]
 |(rw[zas]at h;obtain⟨_,h1,h⟩:=h;first|(with_reducible refine CU (om h1 (by with_unfolding_all rfl)) ?_)|(obtain⟨gA,ZG⟩:=OE h1;subst ZG;simp only[go_sem,gA,hF,hP,hZ,gA])|(with_reducible refine CU (HJ h1 (by with_unfolding_all rfl)) ?_))
 |(with_reducible first|refine bj fun hc=>?_|refine bk fun hc=>?_|refine bl (fun hc=>?_) fun hc=>?_)<;>(try simp only[hc,bs,↓reduceIte]at h)<;>try simp only[hc]
 |((with_reducible refine az hQ ?_);exact dv))
theorem PT {m n:Nat} (Du:zv m n) (Ti:AW m n):yQ m (n+1):=by
 intro nest r p h s o ho
 refine ay.jv ?_ rfl (ff r) (ff p.2) (by simp[D.ok,il]) ho
 unfold Rd.stmt at h
 refine ay.go vv.h rfl fun B Q hB hQ=>?_
 have⟨hF,hP,hZ,gA⟩:=bD
 repeat' (first
 |simp only[go_sem,hF,hP,hZ,gA]
 |(rw[zas]at h;obtain⟨_,h1,h⟩:=h;first|(with_reducible refine CU (Tf h1 (by with_unfolding_all rfl)) ?_)|(obtain⟨gA,ZG⟩:=R0 h1;subst ZG;simp only[go_sem,gA,hF,hP,hZ,gA])|(with_reducible refine CU (nn h1 (by with_unfolding_all rfl)) ?_;have hF:=qn h1)|(with_reducible refine CU (PS h1 (by with_unfolding_all rfl)) ?_)|(with_reducible refine CU (Du h1 (by with_unfolding_all rfl)) ?_)|(with_reducible refine CU (WM h1 (by with_unfolding_all rfl)) ?_)|(with_reducible refine CU (om h1 (by with_unfolding_all rfl)) ?_)|(with_reducible refine CU (BF h1 (by with_unfolding_all rfl)) ?_))
 |(with_reducible refine CU (Ti h (by with_unfolding_all rfl)) ?_)
 |(with_reducible refine CU (Tg h (by with_unfolding_all rfl)) ?_)
 |(with_reducible first|refine bj fun hc=>?_|refine bk fun hc=>?_|refine bl (fun hc=>?_) fun hc=>?_)<;>(try simp only[hc,bs,↓reduceIte]at h)<;>try simp only[hc]
 |((with_reducible refine az hQ ?_);exact dv))
theorem PU {m n:Nat} (vV : ∀ j<n,yQ m j) {nest:Int} {r:Rd} {p:(List Sm×List aA)×Rd} (h:Rd.rows m (n+1) nest true r=some p) :
 ay Tryz.prog 172 [.ptr 0 0, .int .i64 nest, .bool true] ⟨[cj r],[]⟩ (.tuple [.slice .shared 13 (p.1.1.map aH), .slice .shared 1 (p.1.2.map encStr)]) ⟨[cj p.2],[]⟩:=by
 unfold Rd.rows at h
 refine ay.go oY.h rfl fun B Q hB hQ=>?_
 have⟨hF,hP,hZ,gA⟩:=bD
 repeat' (first
 |simp only[go_sem,hF,hP,hZ,gA]
 |(with_reducible first|refine bj fun hc=>?_|refine bk fun hc=>?_|refine bl (fun hc=>?_) fun hc=>?_)<;>(try simp only[hc,bs,↓reduceIte]at h)<;>try simp only[hc]
 |(with_reducible refine az hQ ?_;exact aR))
 refine aY.ko 8 13 rfl ?_
 simp only[go_sem,hF,hP,hZ,gA]
 refine cr 1 1 (aY.ind (ι:=Nat×List Sm×Rd×Nat) (fun i=>Rd.tG m i.1 nest true i.2.1 i.2.2.1=some p∧i.2.2.2=i.2.1.length∧i.1≤n) (fun i=>i.1)
  (fun i=> [(0, .ptr 0 0),(1, .int .i64 nest),(2, .bool true),(8, .slice (.tok 0) 13 (i.2.1.map aH))]) (fun i=>⟨[cj i.2.2.1],[some i.2.2.2]⟩) ?_ (n,[],r,0) ⟨h,rfl,zag _⟩)
 rintro⟨j,l,r,k⟩ ⟨h,hk,hj⟩ IH
 dsimp only at hk hj;subst hk
 cases j with
 |zero=>simp only[Rd.tG]at h;cases h
 |succ j=>
  have HK:=@vV j (by omega)
  simp only[Rd.tG]at h
  repeat' (first
 |simp only[go_sem,hF,hP,hZ,gA,bU]
 |(rw[zas]at h;obtain⟨_,h1,h⟩:=h;first|(with_reducible refine CU (HH h1 (by with_unfolding_all rfl)) ?_)|(with_reducible refine CU (yq h1 (by with_unfolding_all rfl)) ?_;have hF:=is_lt h1)|(obtain⟨hZ,nW⟩:=ng h1;subst nW;simp only[go_sem,hF,hP,hZ,gA])|(with_reducible refine CU (HK h1 (by with_unfolding_all rfl)) ?_))
 |(with_reducible refine CU (jG (by with_unfolding_all rfl)) ?_)
 |(with_reducible first|refine bj fun hc=>?_|refine bk fun hc=>?_|refine bl (fun hc=>?_) fun hc=>?_)<;>(try simp only[hc,bs,↓reduceIte]at h)<;>try simp only[hc]
 | ((with_reducible refine az hQ ?_);(try cases h);simp only [bt,bx,bY,bZ,go_sem,hF,hP,hZ,gA,bU];try exact cB))
  ·refine cD 1 1 ?_ ?_ (IH (j,_,_,l.length+1) ⟨h,by simp,by dsimp only;omega⟩ (zaa _))
   ·(simp only[go_sem,hF,hP,hZ,gA,bU];try exact bd)
   ·(simp only[go_sem,hF,hP,hZ,gA,bU];try exact bd)
theorem MM {m n:Nat} (vV : ∀ j<n,yQ m j) {nest:Int} {r:Rd} {p:(List Sm×List aA)×Rd} (h:Rd.rows m (n+1) nest false r=some p) :
 ay Tryz.prog 172 [.ptr 0 0, .int .i64 nest, .bool false] ⟨[cj r],[]⟩ (.tuple [.slice .shared 13 (p.1.1.map aH), .slice .shared 1 (p.1.2.map encStr)]) ⟨[cj p.2],[]⟩:=by
 unfold Rd.rows at h
 refine ay.go oY.h rfl fun B Q hB hQ=>?_
 have⟨hF,hP,hZ,gA⟩:=bD
 repeat' (first
 |simp only[go_sem,hF,hP,hZ,gA]
 |(with_reducible first|refine bj fun hc=>?_|refine bk fun hc=>?_|refine bl (fun hc=>?_) fun hc=>?_)<;>(try simp only[hc,bs,↓reduceIte]at h)<;>try simp only[hc]
 |(with_reducible refine az hQ ?_;exact aR))
 refine aY.ko 8 13 rfl ?_
 simp only[go_sem,hF,hP,hZ,gA]
 refine cr 1 1 (aY.ind (ι:=Nat×List Sm×Rd×Nat) (fun i=>Rd.tG m i.1 nest false i.2.1 i.2.2.1=some p∧i.2.2.2=i.2.1.length∧i.1≤n) (fun i=>i.1)
  (fun i=> [(0, .ptr 0 0),(1, .int .i64 nest),(2, .bool false),(8, .slice (.tok 0) 13 (i.2.1.map aH))]) (fun i=>⟨[cj i.2.2.1],[some i.2.2.2]⟩) ?_ (n,[],r,0) ⟨h,rfl,zag _⟩)
 rintro⟨j,l,r,k⟩ ⟨h,hk,hj⟩ IH
 dsimp only at hk hj;subst hk
 cases j with
 |zero=>simp only[Rd.tG]at h;cases h
 |succ j=>
  have HK:=@vV j (by omega)
  simp only[Rd.tG]at h
  repeat' (first
 |simp only[go_sem,hF,hP,hZ,gA,bU]
 |(rw[zas]at h;obtain⟨_,h1,h⟩:=h;first|(with_reducible refine CU (HH h1 (by with_unfolding_all rfl)) ?_)|(with_reducible refine CU (yq h1 (by with_unfolding_all rfl)) ?_;have hF:=is_lt h1)|(obtain⟨hZ,nW⟩:=ng h1;subst nW;simp only[go_sem,hF,hP,hZ,gA])|(with_reducible refine CU (HK h1 (by with_unfolding_all rfl)) ?_))
 |(with_reducible refine CU (jG (by with_unfolding_all rfl)) ?_)
 |(with_reducible first|refine bj fun hc=>?_|refine bk fun hc=>?_|refine bl (fun hc=>?_) fun hc=>?_)<;>(try simp only[hc,bs,↓reduceIte]at h)<;>try simp only[hc]
 | ((with_reducible refine az hQ ?_);(try cases h);simp only [bt,bx,bY,bZ,go_sem,hF,hP,hZ,gA,bU];try exact cB))
  ·refine cD 1 1 ?_ ?_ (IH (j,_,_,l.length+1) ⟨h,by simp,by dsimp only;omega⟩ (zaa _))
   ·(simp only[go_sem,hF,hP,hZ,gA,bU];try exact bd)
   ·(simp only[go_sem,hF,hP,hZ,gA,bU];try exact bd)
  ·refine cD 1 1 ?_ ?_ (IH (j,_,_,l.length+1) ⟨h,by simp,by dsimp only;omega⟩ (zaa _))
   ·(simp only[go_sem,hF,hP,hZ,gA,bU];try exact bd)
   ·(simp only[go_sem,hF,hP,hZ,gA,bU];try exact bd)
theorem PV {m n:Nat} (vV : ∀ j<n,yQ m j):HI m (n+1):=by
 intro nest body r p h s o ho
 refine ay.jv ?_ rfl (ff r) (ff p.2) (by simp[D.ok,D.bg,gR,dd,Tag.ok]) ho
 cases body
 ·exact MM vV h
 ·exact PU vV h
theorem ZH (m:Nat) : ∀ n,∀ k<n,HI m k∧yQ m k∧zv m k∧AW m k:=by
 intro n
 induction n with
 |zero=>intro k h;exact absurd h (zaG _)
 | succ n ih=>
  intro k hk
  cases k with
  |zero=>
   refine⟨?_, ?_, ?_, ?_⟩
   ·intro nest body r p h;simp only[Rd.rows]at h;cases h
   ·intro nest r p h;simp only[Rd.stmt]at h;cases h
   ·intro nest r p h;simp only[Rd.block]at h;cases h
   ·intro nest r p h;simp only[Rd.choice]at h;cases h
  |succ k=>
   obtain⟨h1,h2,h3,h4⟩:=ih k (by omega)
   exact⟨PV fun j hj=>(ih j (by omega)).2.1,PT h3 h4,MK h1,I4 h3⟩
theorem HJ {m n:Nat} {nest:Int} {body:Bool} {r:Rd} {p:(List Sm×List aA)×Rd} (h:Rd.rows m n nest body r=some p) {s:St} {o:Nat} (ho:s.av[o]? = some (cj r)) :
 ay Tryz.prog 172 [.ptr o 0, .int .i64 nest, .bool body] s (.tuple [.slice .shared 13 (p.1.1.map aH), .slice .shared 1 (p.1.2.map encStr)]) ⟨s.av.set o (cj p.2),s.aw⟩:=
 (ZH m (n+1) n (zaa _)).1 h ho
set_option maxRecDepth 8000
open Go.Proofs
theorem ui {m:Nat} {B:ey} {Q:Exit→Tm→St→Prop} {row:List D} {name:aA} {p:Pc×Rd} (hB:B.s = ⟨[row],[]⟩) (hQ:gy 1 0 [(2,some (true,5))] (.agg (bn p.1)) ⟨[cj p.2],[]⟩=Q)
 (ps:List Pm) (r:Rd) (h:Rd.wx m name ps r=some p) :
 aY Tryz.prog B 56 Q0G (dF 2 (eK (eo Tryz.prog B 56 Q0H Q) Q)) [(0, .ptr 0 0),(2, .ptr 1 0),(3, .ptr 2 0)]
  ⟨[cj r,[.str [], .slice .full 0 [], .slice .full 0 [], .slice .full 0 [], .slice .full 0 []],[.str name, .slice .shared 2 (ps.map df), .slice .full 0 [], .slice .full 0 [], .slice .full 0 []]],[]⟩:=by
 have⟨hF,hP,hZ,gA⟩:=bD
 unfold Rd.wx at h
 rw[zas]at h
 obtain⟨q,h,hr⟩:=h
 refine aY.qk 2 2 1 rfl rfl ?_
 simp only[go_sem,hF,hP,hZ,gA]
 refine cr 3 1 (aY.ind (ι:=Nat×List aA×Rd×Nat) (fun i=>Rd.vars m i.1 i.2.1 i.2.2.1=some q∧i.2.2.2=i.2.1.length) (fun i=>i.1)
  (fun i=> [(0, .ptr 0 0),(2, .ptr 1 0),(3, .ptr 2 0)]) (fun i=>⟨[cj i.2.2.1,[.str [], .slice .full 0 [], .slice .full 0 [], .slice .full 0 [], .slice .full 0 []],[.str name, .slice .shared 2 (ps.map df), .slice (.tok 0) 1 (i.2.1.map encStr), .slice .full 0 [], .slice .full 0 []]],[some i.2.2.2]⟩) ?_ (m,[],r,0) ⟨h,rfl⟩)
 rintro⟨n,l,r,k⟩ ⟨h,hk⟩ IH
 dsimp only at hk;subst hk
 cases n with
 |zero=>simp only[Rd.vars]at h;cases h
 |succ n=>
  simp only[Rd.vars]at h
  repeat' (first
 |simp only[go_sem,hF,hP,hZ,gA]
 |(rw[zas]at h;obtain⟨_,h1,h⟩:=h;first|(with_reducible refine CU (rk h1 (by with_unfolding_all rfl)) ?_)|(with_reducible refine CU (JK h1 (by with_unfolding_all rfl) (by with_unfolding_all rfl)) ?_)|(with_reducible refine CU (HJ h1 (by with_unfolding_all rfl)) ?_))
 |(with_reducible first|refine bj fun hc=>?_|refine bk fun hc=>?_|refine bl (fun hc=>?_) fun hc=>?_)<;>(try simp only[hc,bs,↓reduceIte]at h)<;>try simp only[hc]
 |((with_reducible refine az hQ ?_);exact dv)
 |(cases h;replace h:=hr;clear hr;(try simp only[bs,↓reduceIte]at h))
 |(cases h;done))
  refine cr 3 1 (IH (n,_,_,_) ⟨h,rfl⟩ (zaa _))
theorem ZI {m:Nat} {r:Rd} {p:Pc×Rd} (h:Rd.proc m r=some p) {s:St} {o:Nat} (ho:s.av[o]? = some (cj r)) :
 ay Tryz.prog 136 [.ptr o 0] s (.agg (bn p.1)) ⟨s.av.set o (cj p.2),s.aw⟩:=by
 refine ay.jv ?_ rfl (ff r) (ff p.2) (by simp[D.ok,ql]) ho
 unfold Rd.proc Rd.other at h
 refine ay.go lq.h rfl fun B Q hB hQ=>?_
 have⟨hF,hP,hZ,gA⟩:=bD
 repeat' (first
 |simp only[go_sem,hF,hP,hZ,gA]
 |(rw[zas]at h;obtain⟨_,h1,h⟩:=h;first|(with_reducible refine CU (om h1 (by with_unfolding_all rfl)) ?_)|(with_reducible refine CU (yq h1 (by with_unfolding_all rfl)) ?_)|(with_reducible refine CU (vF h1 (by with_unfolding_all rfl)) ?_))
 |(with_reducible refine CU (jG (by with_unfolding_all rfl)) ?_)
 |(with_reducible first|refine bj fun hc=>?_|refine bk fun hc=>?_|refine bl (fun hc=>?_) fun hc=>?_)<;>(try simp only[hc,bs,↓reduceIte]at h)<;>try simp only[hc]
 |(with_reducible refine az hQ ?_;exact aR))
 ·refine cr 3 0 (ui hB hQ [] _ h)
 ·rename_i nm _ _ _ _ _
  rw[zas]at h
  obtain⟨q,h,hr⟩:=h
  refine aY.qk 2 1 2 rfl rfl ?_
  simp only[go_sem,hF,hP,hZ,gA]
  refine cr 3 1 (aY.ind (ι:=Nat×List Pm×Rd×Nat) (fun i=>Rd.params i.1 i.2.1 i.2.2.1=some q∧i.2.2.2=i.2.1.length) (fun i=>i.1)
   (fun i=> [(0, .ptr 0 0),(2, .ptr 1 0),(3, .ptr 2 0)]) (fun i=>⟨[cj i.2.2.1,[.str [], .slice .full 0 [], .slice .full 0 [], .slice .full 0 [], .slice .full 0 []],[.str nm.1, .slice (.tok 0) 2 (i.2.1.map df), .slice .full 0 [], .slice .full 0 [], .slice .full 0 []]],[some i.2.2.2]⟩) ?_ (m,[],_,0) ⟨h,rfl⟩)
  rintro⟨n,l,r,k⟩ ⟨h,hk⟩ IH
  dsimp only at hk;subst hk
  cases n with
  |zero=>simp only[Rd.params]at h;cases h
  |succ n=>
   simp only[Rd.params]at h
   repeat' (first
 |simp only[go_sem,hF,hP,hZ,gA]
 |(rw[zas]at h;obtain⟨_,h1,h⟩:=h;first|(with_reducible refine CU (rk h1 (by with_unfolding_all rfl)) ?_)|(with_reducible refine CU (vF h1 (by with_unfolding_all rfl)) ?_)|(obtain⟨hZ,nW⟩:=ng h1;subst nW;simp only[go_sem,hF,hP,hZ,gA])|(with_reducible refine CU (om h1 (by with_unfolding_all rfl)) ?_))
 |(with_reducible refine CU (jG (by with_unfolding_all rfl)) ?_)
 |(with_reducible first|refine bj fun hc=>?_|refine bk fun hc=>?_|refine bl (fun hc=>?_) fun hc=>?_)<;>(try simp only[hc,bs,↓reduceIte]at h)<;>try simp only[hc]
 |((with_reducible refine az hQ ?_);exact dv)
 |(cases h;replace h:=hr;clear hr;(try simp only[bs,↓reduceIte]at h))
 | (cases h;done))
   ·refine cr 3 1 (IH (n,_,_,l.length+1) ⟨h,by simp⟩ (zaa _))
   ·refine cr 3 0 (ui hB hQ _ _ h)
   ·refine cr 3 0 (ui hB hQ _ _ h)
 ·refine cr 3 0 (ui hB hQ [] _ h)
theorem HL {m:Nat} {B:ey} {Q:Exit→Tm→St→Prop} {row:List D} {g:List aA} {p:Pg×Rd} (hB:B.s = ⟨[row],[]⟩) (hQ:gy 1 0 [(2,some (true,2))] (.agg (bf p.1)) ⟨[cj p.2],[]⟩=Q)
 (r:Rd) {k:Nat} (h:((Rd.procs m k [] r).bind fun q=>some (⟨g,q.1⟩,q.2))=some p) :
 aY Tryz.prog B 49 Q06 (dF 2 (eK (eo Tryz.prog B 49 Q07 Q) Q)) [(0, .ptr 0 0),(2, .ptr 1 0),(3, .ptr 2 0)]
  ⟨[cj r,[.slice .full 0 [], .slice .full 0 []],[.slice .shared 1 (g.map encStr), .slice .full 0 []]],[]⟩:=by
 have⟨hF,hP,hZ,gA⟩:=bD
 rw[zas]at h
 obtain⟨q,h,hr⟩:=h
 cases hr
 refine aY.qk 2 1 5 rfl rfl ?_
 simp only[go_sem,hF,hP,hZ,gA]
 refine cr 3 1 (aY.ind (ι:=Nat×List Pc×Rd×Nat) (fun i=>Rd.procs m i.1 i.2.1 i.2.2.1=some q∧i.2.2.2=i.2.1.length) (fun i=>i.1)
  (fun i=> [(0, .ptr 0 0),(2, .ptr 1 0),(3, .ptr 2 0)]) (fun i=>⟨[cj i.2.2.1,[.slice .full 0 [], .slice .full 0 []],[.slice .shared 1 (g.map encStr), .slice (.tok 0) 5 (i.2.1.map bn)]],[some i.2.2.2]⟩) ?_ (k,[],r,0) ⟨h,rfl⟩)
 rintro⟨n,l,r,k⟩ ⟨h,hk⟩ IH
 dsimp only at hk;subst hk
 cases n with
 |zero=>simp only[Rd.procs]at h;cases h
 |succ n=>
  simp only[Rd.procs,Rd.OG,Rd.GX]at h
  repeat' (first
 |simp only[go_sem,hF,hP,hZ,gA]
 |(rw[zas]at h;obtain⟨_,h1,h⟩:=h;first|(with_reducible refine CU (yq h1 (by with_unfolding_all rfl)) ?_;have hF:=is_lt h1)|(with_reducible refine CU (BF h1 (by with_unfolding_all rfl)) ?_)|(with_reducible refine CU (ZI h1 (by with_unfolding_all rfl)) ?_)|(obtain⟨hZ,nW⟩:=ng h1;subst nW;simp only[go_sem,hF,hP,hZ,gA])|(with_reducible refine CU (nn h1 (by with_unfolding_all rfl)) ?_))
 |(with_reducible refine CU (jG (by with_unfolding_all rfl)) ?_)
 |(with_reducible first|refine bj fun hc=>?_|refine bk fun hc=>?_|refine bl (fun hc=>?_) fun hc=>?_)<;>(try simp only[hc,bs,↓reduceIte]at h)<;>try simp only[hc]
 |((with_reducible refine az hQ ?_);exact dv))
  ·refine cr 3 1 (IH (n,_,_,l.length+1) ⟨h,by simp⟩ (zaa _))
set_option maxRecDepth 8000
open Go.Proofs
theorem Tj {c:UInt8} {r:aA} (h:n3 c=true):0<pI (c::r):=by simp[pI,h]
theorem MN {text:aA} (hl:text.length≤100000) {B:ey} {Q:Exit→Tm→St→Prop} {p:List eY×Int×Int} (hB:B.s=S0)
 (hQ:gy 0 0 [(2,none),(3,some (true,2))] (.tuple [.slice .shared 4 (p.1.map dS), .agg (lu p.2)]) ⟨[],[]⟩=Q)
 {n pos:Nat} {out:List eY} (ho:out.length≤2000) (hp:pos≤text.length) (IH:qM text B Q p (n+1))
 {c:UInt8} {r:aA} (h1:text.drop pos=c::r) (hb:xv c=false) (hc:((c.toNat:Int)==35)=false) (hL:pH c=false) (hD:n3 c=true) (hn:(c::r).length<n+1) (h:lW (n+1) pos (c::r) out=p) :
 eo Tryz.prog B 152 zX (ja Tryz.prog B 152 tM Q) (mI text out pos) (nL out):=by
 have hZ:0<1:=zaS
 have gA:0<1:=zaS
 have hP:=(drop_cons h1).1
 have g4:=(drop_cons h1).2.2.2
 have hF:pos<4611686018427387904:=by omega
 have dU:decide ((pos:Int)≥(text.length:Int))=false:=by simp;omega
 have de:(out.length+1)*41≤aT:=by simp only[aT];omega
 have bH:=G7 (c::r)
 have sA:=Tj (r:=r) hD
 have oZ:(c::r).length=text.length - pos:=by rw[← h1,zbh]
 have rD:=G8 (c::r)
 simp only[lW,hb,zab,↓reduceIte,hc,Mp,hL,hD]at h
 simp only[xv,zbB]at hb
 generalize hK:pI (c::r)=k at h bH sA rD
 have hlen:((c::r).take k).length=k:=by rw[zbw];omega
 have od:=fun s=>R4 rD (by rw[hlen];omega) s
 simp only[hlen]at h
 have fF:((c::r).take k)[0]? = some c:=by rw[za5 sA];rfl
 have e2:(0:Int)≤(pos:Int)∧(pos:Int)≤((pos+k:Nat):Int)∧((pos+k:Nat):Int)≤(text.length:Int):=by omega
 have e3:(text.take (pos+k)).drop pos=(c::r).take k:=by rw[wD,h1]
 have fin:text.drop (pos+k)=(c::r).drop k:=by rw[← h1,List.drop_drop]
 have sh:((c::r).drop k).length<n:=by rw[zbh];omega
 have UN:pos+k≤text.length:=by omega
 repeat' (first
 |simp only[go_sem,hF,hP,hZ,gA,dU,hb.1.1.1,hb.1.1.2,hb.1.2,hb.2,hc,hL,hD]
 |(with_reducible refine CU (gF _ _) ?_)
 |(with_reducible refine CU (iT _ _) ?_)
 |(with_reducible refine b9 (l:=3) (by with_unfolding_all rfl) ?_)
 |(with_reducible refine az hQ ?_;exact aR))
 refine cr 2 1 (aY.ind (ι:=aA×Nat) (fun i=>text.drop i.2=i.1∧i.2+pI i.1=pos+k) (fun i=>i.1.length)
  (fun i=>mI text out i.2) (fun i=>⟨[[.int .i64 0, .int .i64 0],[.int .i64 0, .str [], .int .i64 0, .int .i64 (pos:Int)]],[some out.length]⟩) ?_ (c::r,pos) ⟨h1,by dsimp only;omega⟩)
 rintro⟨rest,j⟩ ⟨j1,j2⟩ Yw
 dsimp only at j1 j2
 have step : ∀ d ox,rest=d::ox→n3 d=true→eo Tryz.prog B 152 Q04 (eK (aY Tryz.prog B 152 Q04
  (dF 3 (eK (eo Tryz.prog B 152 Q05 (ja Tryz.prog B 152 tM Q)) (ja Tryz.prog B 152 tM Q))))
  (dF 3 (eK (eo Tryz.prog B 152 Q05 (ja Tryz.prog B 152 tM Q)) (ja Tryz.prog B 152 tM Q))))
  (mI text out j) ⟨[[.int .i64 0, .int .i64 0],[.int .i64 0, .str [], .int .i64 0, .int .i64 (pos:Int)]],[some out.length]⟩:=by
  rintro d ox rfl hd
  obtain⟨hP,g2,dU,g5⟩:=drop_cons j1
  have hF:j<4611686018427387904:=by omega
  simp only[pI,hd,↓reduceIte]at j2
  repeat' (first
 |simp only[go_sem,hF,hP,hZ,gA,dU,hd]
 |(with_reducible refine CU (iT _ _) ?_)
 |(with_reducible first|refine bj fun hc=>?_|refine bk fun hc=>?_|refine bl (fun hc=>?_) fun hc=>?_)<;>(try simp only[hc,bs,↓reduceIte]at h)<;>try simp only[hc]
 |((with_reducible refine az hQ ?_);(try cases h);simp only[bt,bx,bY,bZ,go_sem,hF,hP,hZ,gA,dU,hd];try exact cB))
  refine cr 2 1 (Yw (ox,j+1) ⟨g2,by dsimp only;omega⟩ (zaa _))
 cases rest with
 | nil=>
  have dU:=drop_nil j1
  simp only[pI,za4]at j2
  subst j2
  by_cases hz:k > 1∧(c.toNat:Int)=48
  ·have z1:decide ((k:Int) > 1)=true:=by simp;omega
   have z2:((c.toNat:Int)==48)=true:=by simp[hz.2]
   rw[if_pos hz]at h
   dsimp only at h
   repeat' (first
 |simp only[go_sem,hF,hP,hZ,gA,dU,e2,e3,hlen,fF,z1,z2]
 |(with_reducible refine b9 (l:=4) (by with_unfolding_all rfl) ?_)
 |(with_reducible refine b9 (l:=5) (by with_unfolding_all rfl) ?_)
 |(with_reducible first|refine bj fun hc=>?_|refine bk fun hc=>?_|refine bl (fun hc=>?_) fun hc=>?_)<;>(try simp only[hc,bs,↓reduceIte]at h)<;>try simp only[hc]
 | ((with_reducible refine az hQ ?_);(try cases h);simp only [bt,bx,bY,bZ,go_sem,hF,hP,hZ,gA,dU,e2,e3,hlen,fF,z1,z2];try exact cB))
  ·have HM:decide ((k:Int) > 1)=false∨(decide ((k:Int) > 1)=true∧((c.toNat:Int)==48)=false):=by
    by_cases h1:k > 1
    ·right;exact⟨by simp;omega,by simp;intro h2;exact hz ⟨h1,h2⟩⟩
    ·left;simp;omega
   rw[if_neg hz]at h
   cases hw:tQ 0 ((c::r).take k)with
   |none=>
    have HN:np ((c::r).take k)=(0,false):=by simp only[np,hw]
    simp only[HN]at od
    simp only[hw]at h
    rcases HM with z1|⟨z1,z2⟩
    ·repeat' (first
 |simp only[go_sem,hF,hP,hZ,gA,dU,e2,e3,hlen,fF,z1]
 |(with_reducible refine CU (od _) ?_)
 |(with_reducible refine b9 (l:=4) (by with_unfolding_all rfl) ?_)
 |(with_reducible refine b9 (l:=5) (by with_unfolding_all rfl) ?_)
 |(with_reducible first|refine bj fun hc=>?_|refine bk fun hc=>?_|refine bl (fun hc=>?_) fun hc=>?_)<;>(try simp only[hc,bs,↓reduceIte]at h)<;>try simp only[hc]
 | ((with_reducible refine az hQ ?_);(try cases h);simp only [bt,bx,bY,bZ,go_sem,hF,hP,hZ,gA,dU,e2,e3,hlen,fF,z1];try exact cB))
    ·repeat' (first
 |simp only[go_sem,hF,hP,hZ,gA,dU,e2,e3,hlen,fF,z1,z2]
 |(with_reducible refine CU (od _) ?_)
 |(with_reducible refine b9 (l:=4) (by with_unfolding_all rfl) ?_)
 |(with_reducible refine b9 (l:=5) (by with_unfolding_all rfl) ?_)
 |(with_reducible first|refine bj fun hc=>?_|refine bk fun hc=>?_|refine bl (fun hc=>?_) fun hc=>?_)<;>(try simp only[hc,bs,↓reduceIte]at h)<;>try simp only[hc]
 | ((with_reducible refine az hQ ?_);(try cases h);simp only [bt,bx,bY,bZ,go_sem,hF,hP,hZ,gA,dU,e2,e3,hlen,fF,z1,z2];try exact cB))
   | some v=>
    have HN:np ((c::r).take k)=(v,true):=by simp only[np,hw]
    simp only[HN]at od
    simp only[hw,hlen]at h
    by_cases p9:out.length=2000
    ·have jn:((out.length:Int)==2000)=true:=by simp [p9]
     simp only[p9,↓reduceIte]at h
     rcases HM with z1|⟨z1,z2⟩
     ·repeat' (first
 |simp only[go_sem,hF,hP,hZ,gA,dU,e2,e3,hlen,fF,z1,jn]
 |(with_reducible refine CU (od _) ?_)
 |(with_reducible refine b9 (l:=4) (by with_unfolding_all rfl) ?_)
 |(with_reducible refine b9 (l:=5) (by with_unfolding_all rfl) ?_)
 |(with_reducible first|refine bj fun hc=>?_|refine bk fun hc=>?_|refine bl (fun hc=>?_) fun hc=>?_)<;>(try simp only[hc,bs,↓reduceIte]at h)<;>try simp only[hc]
 | ((with_reducible refine az hQ ?_);(try cases h);simp only [bt,bx,bY,bZ,go_sem,hF,hP,hZ,gA,dU,e2,e3,hlen,fF,z1,jn];try exact cB))
     ·repeat' (first
 |simp only[go_sem,hF,hP,hZ,gA,dU,e2,e3,hlen,fF,z1,z2,jn]
 |(with_reducible refine CU (od _) ?_)
 |(with_reducible refine b9 (l:=4) (by with_unfolding_all rfl) ?_)
 |(with_reducible refine b9 (l:=5) (by with_unfolding_all rfl) ?_)
 |(with_reducible first|refine bj fun hc=>?_|refine bk fun hc=>?_|refine bl (fun hc=>?_) fun hc=>?_)<;>(try simp only[hc,bs,↓reduceIte]at h)<;>try simp only[hc]
 | ((with_reducible refine az hQ ?_);(try cases h);simp only [bt,bx,bY,bZ,go_sem,hF,hP,hZ,gA,dU,e2,e3,hlen,fF,z1,z2,jn];try exact cB))
    ·have jn:((out.length:Int)==2000)=false:=by simp;omega
     have zY : ∀ t:eY,(out++ [t]).length≤2000:=by intro t;simp;omega
     simp only[p9,↓reduceIte]at h
     rcases HM with z1|⟨z1,z2⟩
     ·repeat' (first
 |simp only[go_sem,hF,hP,hZ,gA,dU,e2,e3,hlen,fF,z1,jn,de]
 |(with_reducible refine CU (od _) ?_)
 |(with_reducible refine b9 (l:=4) (by with_unfolding_all rfl) ?_)
 |(with_reducible refine b9 (l:=5) (by with_unfolding_all rfl) ?_)
 |(refine IH.to hB fin h sh (zY _) UN (zaa _) ?_ ?_ ?_<;>((try simp only[go_sem,hF,hP,hZ,gA]);repeat' (first|exact Ok.out|with_reducible refine dZ ?_ ?_|omega|(simp;done)));done)
 |(with_reducible first|refine bj fun hc=>?_|refine bk fun hc=>?_|refine bl (fun hc=>?_) fun hc=>?_)<;>(try simp only[hc,bs,↓reduceIte]at h)<;>try simp only[hc]
 | ((with_reducible refine az hQ ?_);(try cases h);simp only [bt,bx,bY,bZ,go_sem,hF,hP,hZ,gA,dU,e2,e3,hlen,fF,z1,jn,de];try exact cB))
     ·repeat' (first
 |simp only[go_sem,hF,hP,hZ,gA,dU,e2,e3,hlen,fF,z1,z2,jn,de]
 |(with_reducible refine CU (od _) ?_)
 |(with_reducible refine b9 (l:=4) (by with_unfolding_all rfl) ?_)
 |(with_reducible refine b9 (l:=5) (by with_unfolding_all rfl) ?_)
 |(refine IH.to hB fin h sh (zY _) UN (zaa _) ?_ ?_ ?_<;>((try simp only[go_sem,hF,hP,hZ,gA]);repeat' (first|exact Ok.out|with_reducible refine dZ ?_ ?_|omega|(simp;done)));done)
 |(with_reducible first|refine bj fun hc=>?_|refine bk fun hc=>?_|refine bl (fun hc=>?_) fun hc=>?_)<;>(try simp only[hc,bs,↓reduceIte]at h)<;>try simp only[hc]
 |((with_reducible refine az hQ ?_);(try cases h);simp only[bt,bx,bY,bZ,go_sem,hF,hP,hZ,gA,dU,e2,e3,hlen,fF,z1,z2,jn,de];try exact cB))
 | cons d rest=>
  obtain⟨hP,g2,dU,g5⟩:=drop_cons j1
  have hF:j<4611686018427387904:=by omega
  cases hd:n3 d
  ·simp only [pI,hd,zab, ↓reduceIte,za4]at j2
   subst j2
   by_cases hz:k > 1∧(c.toNat:Int)=48
   ·have z1:decide ((k:Int) > 1)=true:=by simp;omega
    have z2:((c.toNat:Int)==48)=true:=by simp[hz.2]
    rw[if_pos hz]at h
    dsimp only at h
    repeat' (first
 |simp only[go_sem,hF,hP,hZ,gA,dU,hd,e2,e3,hlen,fF,z1,z2]
 |(with_reducible refine CU (iT _ _) ?_)
 |(with_reducible refine b9 (l:=4) (by with_unfolding_all rfl) ?_)
 |(with_reducible refine b9 (l:=5) (by with_unfolding_all rfl) ?_)
 |(with_reducible first|refine bj fun hc=>?_|refine bk fun hc=>?_|refine bl (fun hc=>?_) fun hc=>?_)<;>(try simp only[hc,bs,↓reduceIte]at h)<;>try simp only[hc]
 | ((with_reducible refine az hQ ?_);(try cases h);simp only [bt,bx,bY,bZ,go_sem,hF,hP,hZ,gA,dU,hd,e2,e3,hlen,fF,z1,z2];try exact cB))
   ·have HM:decide ((k:Int) > 1)=false∨(decide ((k:Int) > 1)=true∧((c.toNat:Int)==48)=false):=by
     by_cases h1:k > 1
     ·right;exact⟨by simp;omega,by simp;intro h2;exact hz ⟨h1,h2⟩⟩
     ·left;simp;omega
    rw[if_neg hz]at h
    cases hw:tQ 0 ((c::r).take k)with
    |none=>
     have HN:np ((c::r).take k)=(0,false):=by simp only[np,hw]
     simp only[HN]at od
     simp only[hw]at h
     rcases HM with z1|⟨z1,z2⟩
     ·repeat' (first
 |simp only[go_sem,hF,hP,hZ,gA,dU,hd,e2,e3,hlen,fF,z1]
 |(with_reducible refine CU (iT _ _) ?_)
 |(with_reducible refine CU (od _) ?_)
 |(with_reducible refine b9 (l:=4) (by with_unfolding_all rfl) ?_)
 |(with_reducible refine b9 (l:=5) (by with_unfolding_all rfl) ?_)
 |(with_reducible first|refine bj fun hc=>?_|refine bk fun hc=>?_|refine bl (fun hc=>?_) fun hc=>?_)<;>(try simp only[hc,bs,↓reduceIte]at h)<;>try simp only[hc]
 | ((with_reducible refine az hQ ?_);(try cases h);simp only [bt,bx,bY,bZ,go_sem,hF,hP,hZ,gA,dU,hd,e2,e3,hlen,fF,z1];try exact cB))
     ·repeat' (first
 |simp only[go_sem,hF,hP,hZ,gA,dU,hd,e2,e3,hlen,fF,z1,z2]
 |(with_reducible refine CU (iT _ _) ?_)
 |(with_reducible refine CU (od _) ?_)
 |(with_reducible refine b9 (l:=4) (by with_unfolding_all rfl) ?_)
 |(with_reducible refine b9 (l:=5) (by with_unfolding_all rfl) ?_)
 |(with_reducible first|refine bj fun hc=>?_|refine bk fun hc=>?_|refine bl (fun hc=>?_) fun hc=>?_)<;>(try simp only[hc,bs,↓reduceIte]at h)<;>try simp only[hc]
 | ((with_reducible refine az hQ ?_);(try cases h);simp only [bt,bx,bY,bZ,go_sem,hF,hP,hZ,gA,dU,hd,e2,e3,hlen,fF,z1,z2];try exact cB))
    | some v=>
     have HN:np ((c::r).take k)=(v,true):=by simp only[np,hw]
     simp only[HN]at od
     simp only[hw,hlen]at h
     by_cases p9:out.length=2000
     ·have jn:((out.length:Int)==2000)=true:=by simp [p9]
      simp only[p9,↓reduceIte]at h
      rcases HM with z1|⟨z1,z2⟩
      ·repeat' (first
 |simp only[go_sem,hF,hP,hZ,gA,dU,hd,e2,e3,hlen,fF,z1,jn]
 |(with_reducible refine CU (iT _ _) ?_)
 |(with_reducible refine CU (od _) ?_)
 |(with_reducible refine b9 (l:=4) (by with_unfolding_all rfl) ?_)
 |(with_reducible refine b9 (l:=5) (by with_unfolding_all rfl) ?_)
 |(with_reducible first|refine bj fun hc=>?_|refine bk fun hc=>?_|refine bl (fun hc=>?_) fun hc=>?_)<;>(try simp only[hc,bs,↓reduceIte]at h)<;>try simp only[hc]
 |((with_reducible refine az hQ ?_);(try cases h);simp only[bt,bx,bY,bZ,go_sem,hF,hP,hZ,gA,dU,hd,e2,e3,hlen,fF,z1,jn];try exact cB))
      ·repeat' (first
 |simp only[go_sem,hF,hP,hZ,gA,dU,hd,e2,e3,hlen,fF,z1,z2,jn]
 |(with_reducible refine CU (iT _ _) ?_)
 |(with_reducible refine CU (od _) ?_)
 |(with_reducible refine b9 (l:=4) (by with_unfolding_all rfl) ?_)
 |(with_reducible refine b9 (l:=5) (by with_unfolding_all rfl) ?_)
 |(with_reducible first|refine bj fun hc=>?_|refine bk fun hc=>?_|refine bl (fun hc=>?_) fun hc=>?_)<;>(try simp only[hc,bs,↓reduceIte]at h)<;>try simp only[hc]
 | ((with_reducible refine az hQ ?_);(try cases h);simp only [bt,bx,bY,bZ,go_sem,hF,hP,hZ,gA,dU,hd,e2,e3,hlen,fF,z1,z2,jn];try exact cB))
     ·have jn:((out.length:Int)==2000)=false:=by simp;omega
      have zY : ∀ t:eY,(out++ [t]).length≤2000:=by intro t;simp;omega
      simp only[p9,↓reduceIte]at h
      rcases HM with z1|⟨z1,z2⟩
      ·repeat' (first
 |simp only[go_sem,hF,hP,hZ,gA,dU,hd,e2,e3,hlen,fF,z1,jn,de]
 |(with_reducible refine CU (iT _ _) ?_)
 |(with_reducible refine CU (od _) ?_)
 |(with_reducible refine b9 (l:=4) (by with_unfolding_all rfl) ?_)
 |(with_reducible refine b9 (l:=5) (by with_unfolding_all rfl) ?_)
 |(refine IH.to hB fin h sh (zY _) UN (zaa _) ?_ ?_ ?_<;>((try simp only[go_sem,hF,hP,hZ,gA]);repeat' (first|exact Ok.out|with_reducible refine dZ ?_ ?_|omega|(simp;done)));done)
 |(with_reducible first|refine bj fun hc=>?_|refine bk fun hc=>?_|refine bl (fun hc=>?_) fun hc=>?_)<;>(try simp only[hc,bs,↓reduceIte]at h)<;>try simp only[hc]
 |((with_reducible refine az hQ ?_);(try cases h);simp only[bt,bx,bY,bZ,go_sem,hF,hP,hZ,gA,dU,hd,e2,e3,hlen,fF,z1,jn,de];try exact cB))
      ·repeat' (first
 |simp only[go_sem,hF,hP,hZ,gA,dU,hd,e2,e3,hlen,fF,z1,z2,jn,de]
 |(with_reducible refine CU (iT _ _) ?_)
 |(with_reducible refine CU (od _) ?_)
 |(with_reducible refine b9 (l:=4) (by with_unfolding_all rfl) ?_)
 |(with_reducible refine b9 (l:=5) (by with_unfolding_all rfl) ?_)
 |(refine IH.to hB fin h sh (zY _) UN (zaa _) ?_ ?_ ?_<;>((try simp only[go_sem,hF,hP,hZ,gA]);repeat' (first|exact Ok.out|with_reducible refine dZ ?_ ?_|omega|(simp;done)));done)
 |(with_reducible refine az hQ ?_;exact aR))
  ·exact step d rest rfl hd
theorem JL {text:aA} (hl:text.length≤100000) {B:ey} {Q:Exit→Tm→St→Prop} {p:List eY×Int×Int} (hB:B.s=S0)
 (hQ:gy 0 0 [(2,none),(3,some (true,2))] (.tuple [.slice .shared 4 (p.1.map dS), .agg (lu p.2)]) ⟨[],[]⟩=Q)
 {n pos:Nat} {out:List eY} (ho:out.length≤2000) (hp:pos≤text.length) (IH:qM text B Q p (n+1)) {rest:aA} (h1:text.drop pos=rest) (h:lW (n+1) pos rest out=p) (hn:rest.length<n+1) :
 eo Tryz.prog B 152 zX (ja Tryz.prog B 152 tM Q) (mI text out pos) (nL out):=by
 cases rest with
 |nil=>exact lex_nil hl hB hQ ho hp IH h1 h
 | cons c r=>
  cases hb:xv c
  ·cases hc:((c.toNat:Int)==35)
   ·cases hL:pH c
    ·cases hD:n3 c
     ·exact R6 hl hB hQ ho hp IH h1 hb hc hL hD hn h
     ·exact MN hl hB hQ ho hp IH h1 hb hc hL hD hn h
    ·exact R7 hl hB hQ ho hp IH h1 hb hc hL hn h
   ·exact Mq hl hB hQ ho hp IH h1 hb hc hn h
  ·exact OO hl hB hQ ho hp IH h1 hb hn h
theorem ZJ {text:aA} (hl:text.length≤100000) {B:ey} {Q:Exit→Tm→St→Prop} {p:List eY×Int×Int} (hB:B.s=S0)
 (hQ:gy 0 0 [(2,none),(3,some (true,2))] (.tuple [.slice .shared 4 (p.1.map dS), .agg (lu p.2)]) ⟨[],[]⟩=Q) : ∀ N,qM text B Q p N:=by
 intro N
 induction N with
 |zero=>intro n pos rest out _ _ _ _ _ h;exact absurd h (zaG _)
 | succ N ih=>
  intro n pos rest out h1 h h2 h3 h4 h5
  cases n with
  |zero=>omega
  |succ n=>
   refine mB.kF ?_
   show eo Tryz.prog B 152 zX (ja Tryz.prog B 152 tM Q) (mI text out pos) (nL out)
   exact JL hl hB hQ h3 h4 (fun n' pos' ox bV a b c d e f=>ih n' pos' ox bV a b c d e (by omega)) h1 h h2
theorem acm (text:aA) (hl:text.length<4611686018427387904) (s:St) :
 ay Tryz.prog 73 [.str text] s (.tuple [.slice .shared 4 ((nk text).1.map dS), .agg (lu (nk text).2)]) s:=by
 refine ay.pure ?_ rfl (by simp[D.ok,D.bg,GO,Tag.ok,lu]) s
 generalize h:nk text=p
 unfold nk at h
 unfold S0
 refine ay.go oi.h rfl fun B Q hB hQ=>?_
 have⟨hF,hP,hZ,gA⟩:=bD
 repeat' (first
 |simp only[go_sem,hF,hP,hZ,gA]
 |(with_reducible first|refine bj fun hc=>?_|refine bk fun hc=>?_|refine bl (fun hc=>?_) fun hc=>?_)<;>(try simp only[hc,bs,↓reduceIte]at h)<;>try simp only[hc]
 |((with_reducible refine az hQ ?_);exact dv))
 refine mB.once (Sem.fY ?_)
 simp only[go_sem,hF,hP,hZ,gA]
 refine Sem.fY ?_
 simp only[go_sem,hF,hP,hZ,gA]
 refine Sem.fY ?_
 simp only[go_sem,hF,hP,hZ,gA]
 refine Sem.fY ?_
 by_cases hz:text.length > 100000
 ·have mc:decide ((text.length:Int) > 100000)=true:=by simp;omega
  rw[if_pos hz]at h
  repeat' (first
 |simp only[go_sem,hF,hP,hZ,gA,mc]
 |(with_reducible first|refine bj fun hc=>?_|refine bk fun hc=>?_|refine bl (fun hc=>?_) fun hc=>?_)<;>(try simp only[hc,bs,↓reduceIte]at h)<;>try simp only[hc]
 |((with_reducible refine az hQ ?_);(try cases h);simp only[bt,bx,bY,bZ,go_sem,hF,hP,hZ,gA,mc];try exact cB))
 ·have mc:decide ((text.length:Int) > 100000)=false:=by simp;omega
  rw[if_neg hz]at h
  have lg:text.length≤100000:=by omega
  have hQ':gy 0 0 [(2,none),(3,some (true,2))] (.tuple [.slice .shared 4 (p.1.map dS), .agg (lu p.2)]) ⟨[],[]⟩=Q:=hQ
  repeat' (first
 |simp only[go_sem,hF,hP,hZ,gA,mc]
 |(with_reducible refine az hQ ?_;exact aR))
  refine Sem.fY ?_
  simp only[go_sem,hF,hP,hZ,gA]
  refine Sem.ko 4 4 rfl ?_
  simp only[go_sem,hF,hP,hZ,gA]
  refine Sem.re _ _ 2 1 (by rw[hB];exact im rfl) (by rw[hB];exact im rfl) ?_ ?_ (gu (JL lg hB hQ' (out:= []) (pos:=0) (by simp) (zar _) (ZJ lg hB hQ' _) rfl h (by simp)))
  ·(simp only[go_sem,hF,hP,hZ,gA];repeat' (first|exact Ok.out|with_reducible refine dZ ?_ ?_))
  ·(simp only[go_sem,hF,hP,hZ,gA];repeat' (first|exact Ok.out|with_reducible refine dZ ?_ ?_))
def UO (l:List eY):Rd:=⟨l,0,0,0,0⟩
def Cm (m:Nat) (text:aA):Option (Pg×Int×Int):=
 if(nk text).2.1 != 0 then some (Bp,(nk text).2)
 else(Rd.program m (UO (nk text).1)).bind fun p=>if p.2.code != 0 then some (Bp,p.2.code,p.2.tF)else(p.1.C2).bind fun q=>some (q,0,0)
def ahN (m:Nat) (text:aA):Option (Ex×Int×Int):=
 if(nk text).2.1 != 0 then some (lN,(nk text).2)
 else(Rd.whole m (UO (nk text).1)).bind fun x=>x.2.GX.bind fun b=>
  if b then(x.2.bad 3).bind fun r=>if !r.good then some (lN,r.code,r.tF)else some (x.1,0,0)
  else if !x.2.good then some (lN,x.2.code,x.2.tF)else some (x.1,0,0)
set_option maxRecDepth 8000
open Go.Proofs
theorem PW {m:Nat} {r:Rd} {p:Pg×Rd} (h:Rd.program m r=some p) {s:St} {o:Nat} (ho:s.av[o]? = some (cj r)) :
 ay Tryz.prog 74 [.ptr o 0] s (.agg (bf p.1)) ⟨s.av.set o (cj p.2),s.aw⟩:=by
 refine ay.jv ?_ rfl (ff r) (ff p.2) (by simp[D.ok,fm]) ho
 unfold Rd.program at h
 refine ay.go kd.h rfl fun B Q hB hQ=>?_
 have⟨hF,hP,hZ,gA⟩:=bD
 repeat' (first
 |simp only[go_sem,hF,hP,hZ,gA]
 |(with_reducible refine az hQ ?_;exact aR))
 rw[zas]at h
 obtain⟨q,h,hr⟩:=h
 refine aY.qk 2 0 1 rfl rfl ?_
 simp only[go_sem,hF,hP,hZ,gA]
 refine cr 3 1 (aY.ind (ι:=Nat×List aA×Rd×Nat) (fun i=>Rd.globals m i.1 i.2.1 i.2.2.1=some q∧i.2.2.2=i.2.1.length) (fun i=>i.1)
  (fun i=> [(0, .ptr 0 0),(2, .ptr 1 0),(3, .ptr 2 0)]) (fun i=>⟨[cj i.2.2.1,[.slice .full 0 [], .slice .full 0 []],[.slice (.tok 0) 1 (i.2.1.map encStr), .slice .full 0 []]],[some i.2.2.2]⟩) ?_ (m,[],r,0) ⟨h,rfl⟩)
 rintro⟨n,l,r,k⟩ ⟨h,hk⟩ IH
 dsimp only at hk;subst hk
 cases n with
 |zero=>simp only[Rd.globals]at h;cases h
 |succ n=>
  simp only[Rd.globals]at h
  repeat' (first
 |simp only[go_sem,hF,hP,hZ,gA]
 |(rw[zas]at h;obtain⟨_,h1,h⟩:=h;first|(with_reducible refine CU (rk h1 (by with_unfolding_all rfl)) ?_)|(with_reducible refine CU (JK h1 (by with_unfolding_all rfl) (by with_unfolding_all rfl)) ?_))
 |(with_reducible first|refine bj fun hc=>?_|refine bk fun hc=>?_|refine bl (fun hc=>?_) fun hc=>?_)<;>(try simp only[hc,bs,↓reduceIte]at h)<;>try simp only[hc]
 |((with_reducible refine az hQ ?_);exact dv)
 |(cases h;replace h:=hr;clear hr;(try simp only[bs,↓reduceIte]at h))
 |(cases h;done))
  ·refine cr 3 1 (IH (n,_,_,_) ⟨h,rfl⟩ (zaa _))
  ·refine cr 3 0 (HL hB hQ _ h)
theorem WN {m:Nat} {text:aA} {p:Pg×Int×Int} (h:Cm m text=some p) (hl:text.length<4611686018427387904) (s:St) :
 ay Tryz.prog 27 [.str text] s (.tuple [.agg (bf p.1), .agg (lu p.2)]) s:=by
 refine ay.pure ?_ rfl (by simp[D.ok,D.bg,fm,lu]) s
 unfold Cm at h
 have ZK:=acm text hl
 generalize nk text=t at h ZK
 unfold S0
 refine ay.go Bs.h rfl fun B Q hB hQ=>?_
 have⟨hF,hP,hZ,gA⟩:=bD
 repeat' (first
 |simp only[go_sem,hF,hP,hZ,gA,UO]
 |(rw[zas]at h;obtain⟨_,h1,h⟩:=h;first|(with_reducible refine CU (PW h1 (by with_unfolding_all rfl)) ?_)|(with_reducible refine CU (SZ h1 _) ?_))
 |(with_reducible refine CU (ZK _) ?_)
 |(with_reducible first|refine bj fun hc=>?_|refine bk fun hc=>?_|refine bl (fun hc=>?_) fun hc=>?_)<;>(try simp only[hc,bs,↓reduceIte]at h)<;>try simp only[hc]
 |((with_reducible refine az hQ ?_);(try cases h);simp only[bt,bx,bY,bZ,go_sem,hF,hP,hZ,gA,UO];try exact cB))
set_option maxRecDepth 8000
open Go.Proofs
def wX (n k:Int):Int:=if Int.tmod n k<0 then Int.tmod n k+k else Int.tmod n k
theorem WO (n:Int) {k:Int} (hk:1≤k):0≤wX n k∧wX n k<k:=by
 unfold wX
 have h1:=Int.tmod_lt_of_pos n (by omega:0<k)
 have h2:=Int.lt_tmod_of_pos n (by omega:0<k)
 split<;>omega
theorem acn (n:Int) {k:Int} (hk:1≤k) (bH:k<1000000) (s:St):ay Tryz.prog 32 [.int .i64 n, .int .i64 k] s (.int .i64 (wX n k)) s:=by
 refine ay.pure ?_ rfl rfl s
 have h1:=Int.tmod_lt_of_pos n (by omega:0<k)
 have h2:=Int.lt_tmod_of_pos n (by omega:0<k)
 have c1:decide (k<1)=false:=by simp;omega
 have w1:IntKind.wrap .i64 (Int.tmod n k)=Int.tmod n k:=cT (by omega) (by omega)
 have w2:IntKind.wrap .i64 (Int.tmod n k+k)=Int.tmod n k+k:=cT (by omega) (by omega)
 have k0:(k=0)=False:=by simp;omega
 unfold S0
 by_cases hm:Int.tmod n k<0
 ·have c2:decide (Int.tmod n k<0)=true:=by simp;omega
  rw[show wX n k=Int.tmod n k+k from if_pos hm]
  refine ay.go ym.h rfl fun B Q hB hQ=>?_
  have⟨hF,hP,hZ,gA⟩:=bD
  repeat' (first
 |simp only[go_sem,hF,hP,hZ,gA,c1,c2,w1,w2,k0]
 |(with_reducible refine az hQ ?_;exact aR))
 ·have c2:decide (Int.tmod n k<0)=false:=by simp;omega
  rw[show wX n k=Int.tmod n k from if_neg hm]
  refine ay.go ym.h rfl fun B Q hB hQ=>?_
  have⟨hF,hP,hZ,gA⟩:=bD
  repeat' (first
 |simp only[go_sem,hF,hP,hZ,gA,c1,c2,w1,w2,k0]
 |(with_reducible refine az hQ ?_;exact aR))
def aco (t:aA):Nat→aA
 | 0=> []
 |n+1=>aco t n++t
def two (i:Nat):aA:= [UInt8.ofNat (48+i / 10),UInt8.ofNat (48+i % 10)]
def ZL (ahead:aA):Nat→aA
 | 0=> []
 |n+1=>(if n=0 then ZL ahead n else ZL ahead n++ [44])++(ahead++ [97]++two n)
def ZM:Nat→aA
 | 0=> []
 |n+1=>ZM n++([112,114,111,99,32,112]++two n++ [40,41,123,125])
set_option maxRecDepth 8000
open Go.Proofs
def ZN (k:Int):List It→List Int
 | []=> []
 |i::l=>if k==0 ||i.s.kind==k then i.s.id::ZN k l else ZN k l
def ahO (l:List Int) (n:Int):Int:=match l[(wX n l.length).toNat]? with|some x=>x|none=>0
def UP (id:Int):List It→Option It
 | []=>none
 |i::l=>if i.s.id==id then some i else UP id l
def UQ (id:Int):List Pc→Option (It×aA)
 | []=>none
 |f::l=>match UP id f.flat with|some i=>some (i,f.name)|none=>UQ id l
def it0:It:=⟨DU,0,0,false⟩
def aeM (r:Option (It×aA)):D:=match r with
 |some (i,nm)=> .tuple [.agg (fQ i), .str nm, .bool true]
 |none=> .tuple [.agg (fQ it0), .str [], .bool false]
def Pg.ahP (p:Pg) (id:Int):Sm:=match UQ id p.procs with|some (i,_)=>i.s|none=>DU
set_option maxRecDepth 8000
open Go.Proofs
def cR (t:aA) (n:Int):Int:=if n > 20000 then 20001 else if(t.length:Int)≥20000 - n then 20001 else n+1+t.length
mutual
def eg:Ex→Int→Int
 |⟨_,_,name,kids⟩,n=>lG kids (cR name n)
def lG:List Ex→Int→Int
 | [],n=>n
 |x::l,n=>if n≤20000 then lG l (eg x n)else n
end
theorem kQ {t:aA} {n:Int} (h0:0≤n):cR t n≤20001∧(n≤20000→n+1≤cR t n)∧0≤cR t n∧(cR t n≤20000→n+1+t.length=cR t n):=by
 unfold cR;split
 ·omega
 ·split<;>omega
theorem s6 : ∀ (m:Nat) (x:Ex),x.size≤m→∀ n:Int,0≤n→eg x n≤20001∧(n≤20000→n+1≤eg x n)∧0≤eg x n∧(eg x n≤20000→(x.size:Int)+1≤2*(eg x n - n)∧x.texts):=by
 intro m
 induction m with
 |zero=>rintro⟨op,v,name,kids⟩ h;simp only[Ex.size]at h;omega
 | succ m ih=>
  rintro⟨op,v,name,kids⟩ h n h0
  simp only[Ex.size]at h
  obtain⟨t1,t2,t3,t4⟩:=kQ (t:=name) h0
  have go : ∀ (l:List Ex),Ex.aM l≤m→∀ c:Int,0≤c→c≤20001→lG l c≤20001∧c≤lG l c∧(lG l c≤20000→(Ex.aM l:Int)≤2*(lG l c - c)∧Ex.sO l):=by
   intro l
   induction l with
   |nil=>intro _ c h0 h1;simp only[lG,Ex.aM];exact⟨h1,zaY _,fun _=>⟨by omega,trivial⟩⟩
   | cons y l OF=>
    intro hs c h0 h1
    simp only[Ex.aM]at hs ⊢
    simp only[lG]
    split
    ·rename_i hc
     obtain⟨a1,a2,a3,a4⟩:=ih y (by omega) c h0
     obtain⟨b1,b2,b3⟩:=OF (by omega) (eg y c) a3 a1
     have:=a2 hc
     refine⟨b1,by omega,fun hw=>?_⟩
     obtain⟨c1,c2⟩:=b3 hw
     obtain⟨d1,d2⟩:=a4 (by omega)
     exact⟨by omega,d2,c2⟩
    ·exact⟨h1,zaY _,fun hw=>by omega⟩
  obtain⟨g1,g2,g3⟩:=go kids (by omega) (cR name n) t3 t1
  simp only[eg,Ex.size]
  refine⟨g1,fun hn=>by have:=t2 hn;omega,by omega,fun hw=>?_⟩
  obtain⟨k1,k2⟩:=g3 hw
  have:=t4 (by omega)
  exact⟨by omega,by omega,k2⟩
theorem oQ (t:aA) {n:Int} (h0:0≤n) (h1:n≤20001) (s:St):ay Tryz.prog 47 [.str t, .int .i64 n] s (.int .i64 (cR t n)) s:=by
 refine ay.pure ?_ rfl rfl s
 unfold S0
 have w1:IntKind.wrap .i64 (20000 - n)=20000 - n:=cT (by omega) (by omega)
 have w2:IntKind.wrap .i64 (n+1)=n+1:=cT (by omega) (by omega)
 by_cases c:n > 20000
 ·have c1:decide (n > 20000)=true:=by simp;omega
  have e:cR t n=20001:=by simp[cR,c]
  rw[e]
  refine ay.go nh.h rfl fun B Q hB hQ=>?_
  have⟨hF,hP,hZ,gA⟩:=bD
  repeat' (first
 |simp only[go_sem,hF,hP,hZ,gA,c1,w1,w2]
 |(with_reducible refine az hQ ?_;exact aR))
 ·have c1:decide (n > 20000)=false:=by simp;omega
  by_cases d:(t.length:Int)≥20000 - n
  ·have d1:decide ((t.length:Int)≥20000 - n)=true:=by simp;omega
   have e:cR t n=20001:=by unfold cR;rw[if_neg c,if_pos d]
   rw[e]
   refine ay.go nh.h rfl fun B Q hB hQ=>?_
   have⟨hF,hP,hZ,gA⟩:=bD
   repeat' (first
 |simp only[go_sem,hF,hP,hZ,gA,c1,d1,w1,w2]
 | (with_reducible refine az hQ ?_;exact aR))
  ·have d1:decide ((t.length:Int)≥20000 - n)=false:=by simp;omega
   have e:cR t n=n+1+t.length:=by unfold cR;rw[if_neg c,if_neg d]
   have w3:IntKind.wrap .i64 (n+1+t.length)=n+1+t.length:=cT (by omega) (by omega)
   rw[e]
   refine ay.go nh.h rfl fun B Q hB hQ=>?_
   have⟨hF,hP,hZ,gA⟩:=bD
   repeat' (first
 |simp only[go_sem,hF,hP,hZ,gA,c1,d1,w1,w2,w3]
 |(with_reducible refine az hQ ?_;exact aR))
theorem HO : ∀ (m:Nat) (x:Ex),x.size≤m→∀ {n:Int},0≤n→n≤20000→∀ s:St,ay Tryz.prog 98 [.agg (bA x), .int .i64 n] s (.int .i64 (eg x n)) s:=by
 intro m
 induction m with
 |zero=>rintro⟨op,v,name,kids⟩ h;simp only[Ex.size]at h;omega
 |succ m ih=>
  rintro⟨op,v,name,kids⟩ cV n h0 h1 s
  refine ay.pure ?_ (by simp[D.bg,D.ok,fK]) rfl s
  simp only[Ex.size]at cV
  have hk : ∀ y∈kids,∀ {n:Int},0≤n→n≤20000→∀ s:St,ay Tryz.prog 98 [.agg (bA y), .int .i64 n] s (.int .i64 (eg y n)) s:=fun y hy=>ih y (by have:=Ex.bC hy;omega)
  have ht:=fun s=>oQ name h0 (by omega) s
  obtain⟨t1,t2,t3,t4⟩:=kQ (t:=name) h0
  unfold S0
  generalize h:eg ⟨op,v,name,kids⟩ n=p
  simp only[eg]at h
  refine ay.go yn.h rfl fun B Q hB hQ=>?_
  have⟨hF,hP,hZ,gA⟩:=bD
  repeat' (first
 |simp only[go_sem,hF,hP,hZ,gA]
 |(with_reducible refine CU (ht _) ?_)
 |(with_reducible first|refine bj fun hc=>?_|refine bk fun hc=>?_|refine bl (fun hc=>?_) fun hc=>?_)<;>(try simp only[hc,bs,↓reduceIte]at h)<;>try simp only[hc]
 | ((with_reducible refine az hQ ?_);exact dv))
  refine cr 1 0 (aY.ind (ι:=List Ex×Nat×Int) (fun i=>kids.drop i.2.1=i.1∧lG i.1 i.2.2=p∧(i.2.1:Int)≤i.2.2∧i.2.2≤20001) (fun i=>i.1.length)
   (fun i=> [(1, .int .i64 i.2.2),(2, .ptr 0 0),(5, .int .i64 (i.2.1:Int))]) (fun i=>⟨[bA ⟨op,v,name,kids⟩],[]⟩) ?_ (kids,0,cR name n) ⟨rfl,h,t3,t1⟩)
  rintro⟨rest,k,c⟩ ⟨g1,h,g3,g4⟩ IH
  dsimp only at g1 h g3 g4
  cases rest with
  |nil=>
   have hF:=drop_nil g1
   simp only[lG]at h
   repeat' (first
 |simp only[go_sem,hF,hP,hZ,gA]
 |(with_reducible first|refine bj fun hc=>?_|refine bk fun hc=>?_|refine bl (fun hc=>?_) fun hc=>?_)<;>(try simp only[hc,bs,↓reduceIte]at h)<;>try simp only[hc]
 | ((with_reducible refine az hQ ?_);exact dv))
  | cons y rest=>
   obtain⟨hP,g2,hF,g5⟩:=drop_cons g1
   simp only[lG]at h
   by_cases hc:c≤20000
   ·have c1:decide (c≤20000)=true:=by simp;omega
    have hy:=fun s=>hk y (zac hP) (n:=c) (by omega) hc s
    obtain⟨a1,a2,a3,a4⟩:=s6 _ y (zag _) c (by omega)
    have:=a2 hc
    have w3:IntKind.wrap .i64 ((k:Int)+1)=((k+1:Nat):Int):=by rw[cT]<;>omega
    rw[if_pos hc]at h
    repeat' (first
 |simp only[go_sem,hF,hP,hZ,gA,c1,w3]
 |(with_reducible refine CU (hy _) ?_)
 |(with_reducible first|refine bj fun hc=>?_|refine bk fun hc=>?_|refine bl (fun hc=>?_) fun hc=>?_)<;>(try simp only[hc,bs,↓reduceIte]at h)<;>try simp only[hc]
 | ((with_reducible refine az hQ ?_);(try cases h);simp only [bt,bx,bY,bZ,go_sem,hF,hP,hZ,gA,c1,w3];try exact cB))
    refine cr 1 0 (IH (rest,k+1,eg y c) ⟨g2,h,by dsimp only;omega,a1⟩ (zaa _))
   ·have c1:decide (c≤20000)=false:=by simp;omega
    rw[if_neg hc]at h
    repeat' (first
 |simp only[go_sem,hF,hP,hZ,gA,c1]
 |(with_reducible first|refine bj fun hc=>?_|refine bk fun hc=>?_|refine bl (fun hc=>?_) fun hc=>?_)<;>(try simp only[hc,bs,↓reduceIte]at h)<;>try simp only[hc]
 |((with_reducible refine az hQ ?_);(try cases h);simp only[bt,bx,bY,bZ,go_sem,hF,hP,hZ,gA,c1];try exact cB))
set_option maxRecDepth 8000
open Go.Proofs
def dA:List aA→Int→Int
 | [],n=>n
 |t::l,n=>if n≤20000 then dA l (cR t n)else n
def gN:List Ar→Int→Int
 | [],n=>n
 |a::l,n=>if n≤20000 then gN l (cR a.name (eg a.x n))else n
def jr:List Pm→Int→Int
 | [],n=>n
 |a::l,n=>if n≤20000 then jr l (cR a.name n)else n
mutual
def pT:Sm→Int→Int
 |⟨_,_,labels,name,proc,x,_,args,aV,aN⟩,n=>eZ aN (eZ aV (gN args (cR proc (cR name (dA labels (eg x n))))))
def eZ:List Sm→Int→Int
 | [],n=>n
 |s::l,n=>if n≤20000 then eZ l (pT s n)else n
end
theorem PX (s:Sm) (n:Int):pT s n=eZ s.aN (eZ s.aV (gN s.args (cR s.proc (cR s.name (dA s.labels (eg s.x n)))))):=by cases s;simp only[pT]
def rp (f:Pc) (n:Int):Int:=eZ f.body (jr f.params (dA f.fin (dA f.vars (cR f.name n))))
def lH:List Pc→Int→Int
 | [],n=>n
 |f::l,n=>if n≤20000 then lH l (rp f n)else n
def Pg.zw (p:Pg):Int:=lH p.procs (dA p.globals 0)
theorem jM : ∀ (l:List aA) {n:Int},0≤n→n≤20001→dA l n≤20001∧n≤dA l n∧(dA l n≤20000→n+l.length≤dA l n∧∀ t∈l,t.length<4611686018427387904)
 | [],n,h0,h1=>by simp only[dA];exact⟨h1,zaY _,fun _=>⟨by simp,by simp⟩⟩
 | t::l,n,h0,h1=>by
  simp only[dA]
  split
  ·rename_i hc
   obtain⟨a1,a2,a3,a4⟩:=kQ (t:=t) h0
   obtain⟨b1,b2,b3⟩:=jM l (n:=cR t n) a3 a1
   have:=a2 hc
   refine⟨b1,by omega,fun hw=>?_⟩
   obtain⟨c1,c2⟩:=b3 hw
   have:=a4 (by omega)
   refine⟨by simp only[zal];omega,fun s m=>?_⟩
   rcases zan.1 m with rfl|m
   ·omega
   ·exact c2 s m
  ·exact⟨h1,zaY _,fun hw=>by omega⟩
theorem wY : ∀ (l:List Pm) {n:Int},0≤n→n≤20001→jr l n≤20001∧n≤jr l n∧(jr l n≤20000→n+l.length≤jr l n∧∀ t∈l,t.name.length<4611686018427387904)
 | [],n,h0,h1=>by simp only[jr];exact⟨h1,zaY _,fun _=>⟨by simp,by simp⟩⟩
 | t::l,n,h0,h1=>by
  simp only[jr]
  split
  ·rename_i hc
   obtain⟨a1,a2,a3,a4⟩:=kQ (t:=t.name) h0
   obtain⟨b1,b2,b3⟩:=wY l (n:=cR t.name n) a3 a1
   have:=a2 hc
   refine⟨b1,by omega,fun hw=>?_⟩
   obtain⟨c1,c2⟩:=b3 hw
   have:=a4 (by omega)
   refine⟨by simp only[zal];omega,fun s m=>?_⟩
   rcases zan.1 m with rfl|m
   ·omega
   ·exact c2 s m
  ·exact⟨h1,zaY _,fun hw=>by omega⟩
theorem wZ : ∀ (l:List Ar) {n:Int},0≤n→n≤20001→gN l n≤20001∧n≤gN l n∧
 (gN l n≤20000→(Ar.aM l:Int)≤2*(gN l n - n)∧∀ a∈l,a.x.size<4611686018427387904∧a.x.texts∧a.name.length<4611686018427387904)
 | [],n,h0,h1=>by simp only[gN];exact⟨h1,zaY _,fun _=>⟨by simp[Ar.aM],by simp⟩⟩
 | a::l,n,h0,h1=>by
  simp only[gN]
  split
  ·rename_i hc
   obtain⟨a1,a2,a3,a4⟩:=s6 _ a.x (zag _) n h0
   obtain⟨e1,e2,e3,e4⟩:=kQ (t:=a.name) a3
   obtain⟨b1,b2,b3⟩:=wZ l (n:=cR a.name (eg a.x n)) e3 e1
   have:=a2 hc
   have:eg a.x n≤cR a.name (eg a.x n):=by
    by_cases h:eg a.x n≤20000
    ·have:=e2 h;omega
    ·have:cR a.name (eg a.x n)=20001:=by unfold cR;rw [if_pos (by omega)]
     omega
   refine⟨b1,by omega,fun hw=>?_⟩
   obtain⟨c1,c2⟩:=b3 hw
   have:=e4 (by omega)
   obtain⟨d1,d2⟩:=a4 (by omega)
   refine⟨by simp only[Ar.aM];omega,fun s m=>?_⟩
   rcases zan.1 m with rfl|m
   ·exact⟨by omega,d2,by omega⟩
   ·exact c2 s m
  ·exact⟨h1,zaY _,fun hw=>by omega⟩
theorem jQ {t:aA} {n:Int} (h0:0≤n) (h1:n≤20001):n≤cR t n∧cR t n≤20001∧(cR t n≤20000→n+1≤cR t n∧t.length<4611686018427387904):=by
 obtain⟨e1,e2,e3,e4⟩:=kQ (t:=t) h0
 by_cases h:n≤20000
 ·have:=e2 h
  exact⟨by omega,e1,fun hw=>⟨by omega,by have:=e4 hw;omega⟩⟩
 ·have:cR t n=20001:=by unfold cR;rw [if_pos (by omega)]
  exact⟨by omega,e1,fun hw=>by omega⟩
mutual
theorem Ew : ∀ (s:Sm) {n:Int},0≤n→n≤20000→pT s n≤20001∧n+1≤pT s n∧(pT s n≤20000→(s.size:Int)+1≤2*(pT s n - n)∧s.tV)
 |⟨id,kind,labels,name,proc,x,has,args,aV,aN⟩,n,h0,h1=>by
  obtain⟨a1,a2,a3,a4⟩:=s6 _ x (zag _) n h0
  have a2:=a2 h1
  obtain⟨b1,b2,b3⟩:=jM labels a3 a1
  obtain⟨c1,c2,c3⟩:=jQ (t:=name) (n:=dA labels (eg x n)) (by omega) b1
  obtain⟨d1,d2,d3⟩:=jQ (t:=proc) (n:=cR name (dA labels (eg x n))) (by omega) c2
  obtain⟨e1,e2,e3⟩:=wZ args (n:=cR proc (cR name (dA labels (eg x n)))) (by omega) d2
  obtain⟨f1,f2,f3⟩:=pU aV (n:=gN args (cR proc (cR name (dA labels (eg x n))))) (by omega) e1
  obtain⟨g1,g2,g3⟩:=pU aN (n:=eZ aV (gN args (cR proc (cR name (dA labels (eg x n)))))) (by omega) f1
  simp only[pT,Sm.size]
  refine⟨g1,by omega,fun hw=>?_⟩
  obtain⟨g4,g5⟩:=g3 hw
  obtain⟨f4,f5⟩:=f3 (by omega)
  obtain⟨e4,e5⟩:=e3 (by omega)
  obtain⟨d4,d5⟩:=d3 (by omega)
  obtain⟨c4,c5⟩:=c3 (by omega)
  obtain⟨b4,b5⟩:=b3 (by omega)
  obtain⟨a5,a6⟩:=a4 (by omega)
  have:=Ar.cd args
  refine⟨by omega, ?_⟩
  rw[AN]
  exact⟨⟨b5,by dsimp only;omega,c5,d5,by dsimp only;omega,a6,by dsimp only;omega,e5⟩,f5,g5⟩
theorem pU : ∀ (l:List Sm) {n:Int},0≤n→n≤20001→eZ l n≤20001∧n≤eZ l n∧(eZ l n≤20000→(Sm.aM l:Int)≤2*(eZ l n - n)∧Sm.ji l)
 | [],n,h0,h1=>by simp only[eZ];exact⟨h1,zaY _,fun _=>⟨by simp[Sm.aM],by simp only[Sm.ji]⟩⟩
 | s::l,n,h0,h1=>by
  simp only[eZ]
  split
  ·rename_i hc
   obtain⟨a1,a2,a3⟩:=Ew s h0 hc
   obtain⟨b1,b2,b3⟩:=pU l (n:=pT s n) (by omega) a1
   refine⟨b1,by omega,fun hw=>?_⟩
   obtain⟨c1,c2⟩:=b3 hw
   obtain⟨d1,d2⟩:=a3 (by omega)
   exact⟨by simp only[Sm.aM];omega,d2,c2⟩
  ·exact⟨h1,zaY _,fun hw=>by omega⟩
end
theorem Ey (f:Pc) {n:Int} (h0:0≤n) (h1:n≤20000):rp f n≤20001∧n+1≤rp f n∧(rp f n≤20000→(f.size:Int)+1≤2*(rp f n - n)∧
 (f.name.length<4611686018427387904∧(∀ t∈f.vars,t.length<4611686018427387904)∧(∀ t∈f.fin,t.length<4611686018427387904)∧∀ a∈f.params,a.name.length<4611686018427387904)∧Sm.ji f.body):=by
 obtain⟨c1,c2,c3⟩:=jQ (t:=f.name) h0 (by omega:n≤20001)
 have c4:=(kQ (t:=f.name) h0).2.1 h1
 obtain⟨d1,d2,d3⟩:=jM f.vars (n:=cR f.name n) (by omega) c2
 obtain⟨e1,e2,e3⟩:=jM f.fin (n:=dA f.vars (cR f.name n)) (by omega) d1
 obtain⟨g1,g2,g3⟩:=wY f.params (n:=dA f.fin (dA f.vars (cR f.name n))) (by omega) e1
 obtain⟨k1,k2,k3⟩:=pU f.body (n:=jr f.params (dA f.fin (dA f.vars (cR f.name n)))) (by omega) g1
 unfold rp Pc.size
 refine⟨k1,by omega,fun hw=>?_⟩
 obtain⟨k4,k5⟩:=k3 hw
 obtain⟨g4,g5⟩:=g3 (by omega)
 obtain⟨e4,e5⟩:=e3 (by omega)
 obtain⟨d4,d5⟩:=d3 (by omega)
 obtain⟨_,c5⟩:=c3 (by omega)
 exact⟨by omega,⟨c5,d5,e5,g5⟩,k5⟩
theorem Cn : ∀ (l:List Pc) {n:Int},0≤n→n≤20001→lH l n≤20001∧n≤lH l n∧(lH l n≤20000→(Pc.aM l:Int)≤2*(lH l n - n)∧∀ f∈l,
 (f.name.length<4611686018427387904∧(∀ t∈f.vars,t.length<4611686018427387904)∧(∀ t∈f.fin,t.length<4611686018427387904)∧∀ a∈f.params,a.name.length<4611686018427387904)∧Sm.ji f.body)
 | [],n,h0,h1=>by simp only[lH];exact⟨h1,zaY _,fun _=>⟨by simp[Pc.aM],by simp⟩⟩
 | f::l,n,h0,h1=>by
  simp only[lH]
  split
  ·rename_i hc
   obtain⟨a1,a2,a3⟩:=Ey f h0 hc
   obtain⟨b1,b2,b3⟩:=Cn l (n:=rp f n) (by omega) a1
   refine⟨b1,by omega,fun hw=>?_⟩
   obtain⟨c1,c2⟩:=b3 hw
   obtain⟨d1,d2⟩:=a3 (by omega)
   refine⟨by simp only[Pc.aM];omega,fun s m=>?_⟩
   rcases zan.1 m with rfl|m
   ·exact d2
   ·exact c2 s m
  ·exact⟨h1,zaY _,fun hw=>by omega⟩
theorem MO {p:Pg} (h:p.zw≤20000):p.size≤40001∧p.Fx:=by
 unfold Pg.zw at h
 obtain⟨a1,a2,a3⟩:=jM p.globals (n:=0) (by omega) (by omega)
 obtain⟨b1,b2,b3⟩:=Cn p.procs (n:=dA p.globals 0) (by omega) a1
 obtain⟨c1,c2⟩:=b3 h
 obtain⟨d1,d2⟩:=a3 (by omega)
 have:p.size≤40001:=by unfold Pg.size;omega
 exact⟨this,by omega,d2,fun f m=>(c2 f m).1,fun f m=>(c2 f m).2⟩
theorem uj {l:List aA} {n:Int} (h0:0≤n) (h1:n≤20001) (s:St):ay Tryz.prog 46 [.slice .shared 1 (l.map encStr), .int .i64 n] s (.int .i64 (dA l n)) s:=by
 refine ay.pure ?_ (by simp[D.bg,D.ok,dd,Tag.ok]) rfl s
 unfold S0
 generalize h:dA l n=p
 refine ay.go xD.h rfl fun B Q hB hQ=>?_
 have⟨hF,hP,hZ,gA⟩:=bD
 repeat' (first
 |simp only[go_sem,hF,hP,hZ,gA]
 |(with_reducible refine az hQ ?_;exact aR))
 refine cr 0 0 (aY.ind (ι:=List aA×Nat×Int) (fun i=>l.drop i.2.1=i.1∧dA i.1 i.2.2=p∧(i.2.1:Int)≤i.2.2∧i.2.2≤20001) (fun i=>i.1.length)
  (fun i=> [(0, .slice .shared 1 (l.map encStr)),(1, .int .i64 i.2.2),(5, .int .i64 (i.2.1:Int))]) (fun i=>⟨[],[]⟩) ?_ (l,0,n) ⟨rfl,h,h0,h1⟩)
 rintro⟨rest,k,c⟩ ⟨g1,h,g3,g4⟩ IH
 dsimp only at g1 h g3 g4
 cases rest with
 |nil=>
  have hF:=drop_nil g1
  simp only[dA]at h
  subst h
  repeat' (first
 |simp only[go_sem,hF,hP,hZ,gA]
 |(with_reducible refine az hQ ?_;exact aR))
 | cons y rest=>
  obtain⟨hP,g2,hF,g5⟩:=drop_cons g1
  simp only[dA]at h
  by_cases hc:c≤20000
  ·have c1:decide (c≤20000)=true:=by simp;omega
   have hy:=fun s=>oQ y (n:=c) (by omega) g4 s
   obtain⟨a1,a2,a3,a4⟩:=kQ (t:=y) (n:=c) (by omega)
   have:=a2 hc
   have w3:IntKind.wrap .i64 ((k:Int)+1)=((k+1:Nat):Int):=by rw[cT]<;>omega
   rw[if_pos hc]at h
   repeat' (first
 |simp only[go_sem,hF,hP,hZ,gA,c1,w3]
 |(with_reducible refine CU (hy _) ?_)
 | (with_reducible refine az hQ ?_;exact aR))
   refine cr 0 0 (IH (rest,k+1,cR y c) ⟨g2,h,by dsimp only;omega,a1⟩ (zaa _))
  ·have c1:decide (c≤20000)=false:=by simp;omega
   rw[if_neg hc]at h
   subst h
   repeat' (first
 |simp only[go_sem,hF,hP,hZ,gA,c1]
 |(with_reducible refine az hQ ?_;exact aR))
theorem PZ : ∀ (m:Nat) (l:List Sm),Sm.aM l≤m→∀ {n:Int},0≤n→n≤20001→∀ s:St,ay Tryz.prog 48 [.slice .shared 13 (l.map aH), .int .i64 n] s (.int .i64 (eZ l n)) s:=by
 intro m
 induction m with
 | zero=>
  intro l h n h0 h1 s
  cases l with
  |nil=>
   have z:decide ((0:Int)<0)=false:=rfl
   refine ay.pure ?_ (by simp[D.bg,D.ok,D.fu,Tag.ok]) rfl s
   unfold S0
   simp only[eZ]
   refine ay.go qb.h rfl fun B Q hB hQ=>?_
   have⟨hF,hP,hZ,gA⟩:=bD
   repeat' (first
 |simp only[go_sem,hF,hP,hZ,gA,z]
 |(with_reducible refine aY.kF ?_)
 |(with_reducible refine az hQ ?_;exact aR))
  |cons s l=>simp only[Sm.aM]at h;omega
 |succ m ih=>
  intro l h n h0 h1 s
  refine ay.pure ?_ (by simp[D.bg,D.ok,gR,Tag.ok]) rfl s
  unfold S0
  generalize hp:eZ l n=p
  refine ay.go qb.h rfl fun B Q hB hQ=>?_
  have⟨hF,hP,hZ,gA⟩:=bD
  repeat' (first
 |simp only[go_sem,hF,hP,hZ,gA]
 | (with_reducible refine az hQ ?_;exact aR))
  refine cr 0 0 (aY.ind (ι:=List Sm×Nat×Int) (fun i=>l.drop i.2.1=i.1∧eZ i.1 i.2.2=p∧(i.2.1:Int)≤i.2.2∧i.2.2≤20001) (fun i=>i.1.length)
   (fun i=> [(0, .slice .shared 13 (l.map aH)),(1, .int .i64 i.2.2),(5, .int .i64 (i.2.1:Int))]) (fun i=>⟨[],[]⟩) ?_ (l,0,n) ⟨rfl,hp,h0,h1⟩)
  rintro⟨rest,k,c⟩ ⟨g1,hp,g3,g4⟩ IH
  dsimp only at g1 hp g3 g4
  cases rest with
  |nil=>
   have hF:=drop_nil g1
   simp only[eZ]at hp
   subst hp
   repeat' (first
 |simp only[go_sem,hF,hP,hZ,gA]
 | (with_reducible refine az hQ ?_;exact aR))
  | cons y rest=>
   obtain⟨hP,g2,hF,g5⟩:=drop_cons g1
   simp only[eZ]at hp
   by_cases hc:c≤20000
   ·have c1:decide (c≤20000)=true:=by simp;omega
    have mC:=zac hP
    have cV:=Sm.bC mC
    have KK:s.av.length≤s.av.length∧Sm.aM y.aV<y.size∧Sm.aM y.aN<y.size:=by cases y;simp only[Sm.size];omega
    have w3:IntKind.wrap .i64 ((k:Int)+1)=((k+1:Nat):Int):=by rw[cT]<;>omega
    rw[if_pos hc]at hp
    obtain⟨a1,a2,a3,a4⟩:=s6 _ y.x (zag _) c (by omega)
    have a2:=a2 hc
    obtain⟨b1,b2,b3⟩:=jM y.labels a3 a1
    obtain⟨c1',c2,c3⟩:=jQ (t:=y.name) (n:=dA y.labels (eg y.x c)) (by omega) b1
    obtain⟨d1,d2,d3⟩:=jQ (t:=y.proc) (n:=cR y.name (dA y.labels (eg y.x c))) (by omega) c2
    have eE:=fun s=>HO _ y.x (zag _) (n:=c) (by omega) hc s
    have eL:=fun s=>uj (l:=y.labels) (n:=eg y.x c) (by omega) a1 s
    have eN:=fun s=>oQ y.name (n:=dA y.labels (eg y.x c)) (by omega) b1 s
    have eP:=fun s=>oQ y.proc (n:=cR y.name (dA y.labels (eg y.x c))) (by omega) c2 s
    obtain⟨r1,r2,r3⟩:=Ew y (n:=c) (by omega) hc
    rw[PX]at hp r1 r2
    generalize hC:cR y.proc (cR y.name (dA y.labels (eg y.x c)))=C at *
    obtain⟨s1,s2,s3⟩:=wZ y.args (n:=C) (by omega) d2
    obtain⟨t1,t2,t3⟩:=pU y.aV (n:=gN y.args C) (by omega) s1
    have eT:=fun s=>ih y.aV (by omega) (n:=gN y.args C) (by omega) s1 s
    have eS:=fun s=>ih y.aN (by omega) (n:=eZ y.aV (gN y.args C)) (by omega) t1 s
    generalize hW:gN y.args C=W at *
    repeat' (first
 |simp only[go_sem,hF,hP,hZ,gA,c1,w3]
 |(with_reducible refine CU (eE _) ?_)
 |(with_reducible refine CU (eL _) ?_)
 |(with_reducible refine CU (eN _) ?_)
 |(with_reducible refine CU (eP _) ?_)
 | (with_reducible refine az hQ ?_;exact aR))
    refine cr 1 0 (aY.ind (ι:=List Ar×Nat×Int) (fun i=>y.args.drop i.2.1=i.1∧gN i.1 i.2.2=W∧(i.2.1:Int)≤i.2.2∧i.2.2≤20001) (fun i=>i.1.length)
     (fun i=> [(0, .slice .shared 13 (l.map aH)),(1, .int .i64 i.2.2),(5, .int .i64 (k:Int)),(6, .ptr 0 0),(7, .int .i64 (i.2.1:Int))]) (fun i=>⟨[aH y],[]⟩) ?_ (y.args,0,C) ⟨rfl,hW,by dsimp only;omega,d2⟩)
    rintro⟨ZP,j,e⟩ ⟨k1,hw,k3,k4⟩ yx
    dsimp only at k1 hw k3 k4
    cases ZP with
    |nil=>
     have hF:=drop_nil k1
     simp only[gN]at hw
     subst hw
     repeat' (first
 |simp only[go_sem,hF,hP,hZ,gA,w3]
 |(with_reducible refine CU (eT _) ?_)
 |(with_reducible refine CU (eS _) ?_)
 | (with_reducible refine az hQ ?_;exact aR))
     refine cr 0 0 (IH (rest,k+1,eZ y.aN (eZ y.aV e)) ⟨g2,hp,by dsimp only;omega,r1⟩ (zaa _))
    | cons a ZP=>
     obtain⟨hP,k2,hF,k5⟩:=drop_cons k1
     simp only[gN]at hw
     by_cases he:e≤20000
     ·have e1:decide (e≤20000)=true:=by simp;omega
      have w4:IntKind.wrap .i64 ((j:Int)+1)=((j+1:Nat):Int):=by rw[cT]<;>omega
      rw[if_pos he]at hw
      obtain⟨u1,u2,u3,u4⟩:=s6 _ a.x (zag _) e (by omega)
      have u2:=u2 he
      obtain⟨v1,v2,v3⟩:=jQ (t:=a.name) (n:=eg a.x e) u3 u1
      have eX:=fun s=>HO _ a.x (zag _) (n:=e) (by omega) he s
      have eM:=fun s=>oQ a.name (n:=eg a.x e) u3 u1 s
      repeat' (first
 |simp only[go_sem,hF,hP,hZ,gA,e1,w4]
 |(with_reducible refine CU (eX _) ?_)
 |(with_reducible refine CU (eM _) ?_)
 |(with_reducible refine az hQ ?_;exact aR))
      refine cr 1 0 (yx (ZP,j+1,cR a.name (eg a.x e)) ⟨k2,hw,by dsimp only;omega,v2⟩ (zaa _))
     ·have e1:decide (e≤20000)=false:=by simp;omega
      rw[if_neg he]at hw
      subst hw
      repeat' (first
 |simp only[go_sem,hF,hP,hZ,gA,e1,w3]
 |(with_reducible refine CU (eT _) ?_)
 |(with_reducible refine CU (eS _) ?_)
 | (with_reducible refine az hQ ?_;exact aR))
      refine cr 0 0 (IH (rest,k+1,eZ y.aN (eZ y.aV e)) ⟨g2,hp,by dsimp only;omega,r1⟩ (zaa _))
   ·have c1:decide (c≤20000)=false:=by simp;omega
    rw[if_neg hc]at hp
    subst hp
    repeat' (first
 |simp only[go_sem,hF,hP,hZ,gA,c1]
 |(with_reducible refine az hQ ?_;exact aR))
set_option maxRecDepth 8000
open Go.Proofs
theorem ZQ (p:Pg) (s:St):ay Tryz.prog 13 [.agg (bf p)] s (.bool (decide (p.zw≤20000))) s:=by
 refine ay.pure ?_ (by simp only[D.bg,D.ok,fm];rfl) rfl s
 unfold S0
 generalize hp:p.zw=W
 unfold Pg.zw at hp
 obtain⟨a1,a2,a3⟩:=jM p.globals (n:=0) (by omega) (by omega)
 have eG:=fun s=>uj (l:=p.globals) (n:=0) (by omega) (by omega) s
 refine ay.go ES.h rfl fun B Q hB hQ=>?_
 have⟨hF,hP,hZ,gA⟩:=bD
 repeat' (first
 |simp only[go_sem,hF,hP,hZ,gA]
 |(with_reducible refine CU (eG _) ?_)
 |(with_reducible refine az hQ ?_;exact aR))
 refine cr 1 0 (aY.ind (ι:=List Pc×Nat×Int) (fun i=>p.procs.drop i.2.1=i.1∧lH i.1 i.2.2=W∧(i.2.1:Int)≤i.2.2∧i.2.2≤20001) (fun i=>i.1.length)
  (fun i=> [(1, .ptr 0 0),(3, .int .i64 i.2.2),(4, .int .i64 (i.2.1:Int))]) (fun i=>⟨[bf p],[]⟩) ?_ (p.procs,0,dA p.globals 0) ⟨rfl,hp,a2,a1⟩)
 rintro⟨rest,k,c⟩ ⟨g1,hp,g3,g4⟩ IH
 dsimp only at g1 hp g3 g4
 cases rest with
 |nil=>
  have hF:=drop_nil g1
  simp only[lH]at hp
  subst hp
  repeat' (first
 |simp only[go_sem,hF,hP,hZ,gA]
 |(with_reducible refine az hQ ?_;exact aR))
 | cons f rest=>
  obtain⟨hP,g2,hF,g5⟩:=drop_cons g1
  simp only[lH]at hp
  by_cases hc:c≤20000
  ·have c1:decide (c≤20000)=true:=by simp;omega
   have w3:IntKind.wrap .i64 ((k:Int)+1)=((k+1:Nat):Int):=by rw[cT]<;>omega
   rw[if_pos hc]at hp
   obtain⟨r1,r2,r3⟩:=Ey f (n:=c) (by omega) hc
   unfold rp at hp r1 r2
   obtain⟨c1',c2,c3⟩:=jQ (t:=f.name) (n:=c) (by omega) g4
   obtain⟨d1,d2,d3⟩:=jM f.vars (n:=cR f.name c) (by omega) c2
   obtain⟨e1,e2,e3⟩:=jM f.fin (n:=dA f.vars (cR f.name c)) (by omega) d1
   have eN:=fun s=>oQ f.name (n:=c) (by omega) g4 s
   have eV:=fun s=>uj (l:=f.vars) (n:=cR f.name c) (by omega) c2 s
   have eF:=fun s=>uj (l:=f.fin) (n:=dA f.vars (cR f.name c)) (by omega) d1 s
   generalize hC:dA f.fin (dA f.vars (cR f.name c))=C at *
   obtain⟨s1,s2,s3⟩:=wY f.params (n:=C) (by omega) e1
   have eT:=fun s=>PZ _ f.body (zag _) (n:=jr f.params C) (by omega) s1 s
   generalize hM:jr f.params C=M at *
   repeat' (first
 |simp only[go_sem,hF,hP,hZ,gA,c1,w3]
 |(with_reducible refine CU (eN _) ?_)
 |(with_reducible refine CU (eV _) ?_)
 |(with_reducible refine CU (eF _) ?_)
 | (with_reducible refine az hQ ?_;exact aR))
   refine cr 2 0 (aY.ind (ι:=List Pm×Nat×Int) (fun i=>f.params.drop i.2.1=i.1∧jr i.1 i.2.2=M∧(i.2.1:Int)≤i.2.2∧i.2.2≤20001) (fun i=>i.1.length)
    (fun i=> [(1, .ptr 0 0),(3, .int .i64 i.2.2),(4, .int .i64 (k:Int)),(5, .ptr 1 0),(6, .int .i64 (i.2.1:Int))]) (fun i=>⟨[bf p,bn f],[]⟩) ?_ (f.params,0,C) ⟨rfl,hM,by dsimp only;omega,e1⟩)
   rintro⟨ms,j,e⟩ ⟨k1,hw,k3,k4⟩ yx
   dsimp only at k1 hw k3 k4
   cases ms with
   |nil=>
    have hF:=drop_nil k1
    simp only[jr]at hw
    subst hw
    repeat' (first
 |simp only[go_sem,hF,hP,hZ,gA,w3]
 |(with_reducible refine CU (eT _) ?_)
 | (with_reducible refine az hQ ?_;exact aR))
    refine cr 1 0 (IH (rest,k+1,eZ f.body e) ⟨g2,hp,by dsimp only;omega,r1⟩ (zaa _))
   | cons a ms=>
    obtain⟨hP,k2,hF,k5⟩:=drop_cons k1
    simp only[jr]at hw
    by_cases he:e≤20000
    ·have e1:decide (e≤20000)=true:=by simp;omega
     have w4:IntKind.wrap .i64 ((j:Int)+1)=((j+1:Nat):Int):=by rw[cT]<;>omega
     rw[if_pos he]at hw
     obtain⟨v1,v2,v3⟩:=jQ (t:=a.name) (n:=e) (by omega) k4
     have v4:=(kQ (t:=a.name) (n:=e) (by omega)).2.1 he
     have eM:=fun s=>oQ a.name (n:=e) (by omega) k4 s
     repeat' (first
 |simp only[go_sem,hF,hP,hZ,gA,e1,w4]
 |(with_reducible refine CU (eM _) ?_)
 | (with_reducible refine az hQ ?_;exact aR))
     refine cr 2 0 (yx (ms,j+1,cR a.name e) ⟨k2,hw,by dsimp only;omega,v2⟩ (zaa _))
    ·have e1:decide (e≤20000)=false:=by simp;omega
     rw[if_neg he]at hw
     subst hw
     repeat' (first
 |simp only[go_sem,hF,hP,hZ,gA,e1,w3]
 |(with_reducible refine CU (eT _) ?_)
 |(with_reducible first|refine bj fun hc=>?_|refine bk fun hc=>?_|refine bl (fun hc=>?_) fun hc=>?_)<;>(try simp only[hc,bs,↓reduceIte]at h)<;>try simp only[hc]
 | (with_reducible refine az hQ ?_;simp only [bt,bx,bY,bZ,go_sem,hF,hP,hZ,gA,e1,w3];try exact cB))
     refine cr 1 0 (IH (rest,k+1,eZ f.body e) ⟨g2,hp,by dsimp only;omega,r1⟩ (zaa _))
  ·have c1:decide (c≤20000)=false:=by simp;omega
   rw[if_neg hc]at hp
   subst hp
   repeat' (first
 |simp only[go_sem,hF,hP,hZ,gA,c1]
 |(with_reducible first|refine bj fun hc=>?_|refine bk fun hc=>?_|refine bl (fun hc=>?_) fun hc=>?_)<;>(try simp only[hc,bs,↓reduceIte]at h)<;>try simp only[hc]
 |(with_reducible refine az hQ ?_;simp only[bt,bx,bY,bZ,go_sem,hF,hP,hZ,gA,c1];try exact cB))
def ZR:List aA→List aA→Bool
 | [],_=>true
 |_::_,[]=>true
 |x::l,y::l'=>if !(x==y)then false else ZR l l'
def UR (l l':List aA):Bool:=if(l.length:Int) != (l'.length:Int)then false else ZR l l'
def Ar.n9:List Ar→List Ar→Bool
 | [],_=>true
 |_::_,[]=>true
 |a::l,b::l'=>if !(a.ref==b.ref) || !(a.name==b.name) || !(Ex.beq a.x b.x)then false else Ar.n9 l l'
mutual
def Sm.beq:Sm→Sm→Bool
 |⟨id,kind,labels,name,proc,x,has,args,aV,aN⟩,⟨id',acp,WQ,Mn,sn,x',aeR,Bk,ZS,ZT⟩=>
  if id != id' ||kind != acp || !(name==Mn) || !(proc==sn) || !(has==aeR) || !(UR labels WQ) || !(Ex.beq x x') ||(args.length:Int) != (Bk.length:Int)then false
  else if !(Ar.n9 args Bk)then false
  else if(if(aV.length:Int) != (ZS.length:Int)then false else Sm.n9 aV ZS)then(if(aN.length:Int) != (ZT.length:Int)then false else Sm.n9 aN ZT)else false
def Sm.n9:List Sm→List Sm→Bool
 | [],_=>true
 |_::_,[]=>true
 |s::l,t::l'=>if !(Sm.beq s t)then false else Sm.n9 l l'
end
def Sm.ZU (l l':List Sm):Bool:=if(l.length:Int) != (l'.length:Int)then false else Sm.n9 l l'
def Pm.n9:List Pm→List Pm→Bool
 | [],_=>true
 |_::_,[]=>true
 |a::l,b::l'=>if !((a.name==b.name) && (a.ref==b.ref))then false else Pm.n9 l l'
def Pc.n9:List Pc→List Pc→Bool
 | [],_=>true
 |_::_,[]=>true
 |f::l,g::l'=>
  if !(f.name==g.name) ||(f.params.length:Int) != (g.params.length:Int) || !(UR f.vars g.vars) || !(UR f.fin g.fin) || !(Sm.ZU f.body g.body)then false
  else if !(Pm.n9 f.params g.params)then false else Pc.n9 l l'
def Pg.beq (p q:Pg):Bool:=if !(UR p.globals q.globals) ||(p.procs.length:Int) != (q.procs.length:Int)then false else Pc.n9 p.procs q.procs
set_option maxRecDepth 8000
open Go.Proofs
abbrev afc (N:Nat):Prop:=∀ s t:Sm,s.size<N→∀ st:St,ay Tryz.prog 115 [.agg (aH s), .agg (aH t)] st (.bool (Sm.beq s t)) st
abbrev ahQ (N:Nat):Prop:=∀ l l':List Sm,Sm.aM l<N→∀ st:St,ay Tryz.prog 55 [.slice .shared 13 (l.map aH), .slice .shared 13 (l'.map aH)] st (.bool (Sm.ZU l l')) st
set_option maxRecDepth 8000
open Go.Proofs
def zz (n:Int):Ex:=⟨1,n,[],[]⟩
def pV (s:aA):Ex:=⟨2,0,s,[]⟩
def Co (op:Int) (a b:Ex):Ex:=⟨op,0,[],[a,b]⟩
theorem acq (n:Int) (s:St):ay Tryz.prog 95 [.int .i64 n] s (.agg (bA (zz n))) s:=by
 refine ay.pure ?_ rfl (by simp[D.ok,fK]) s
 unfold S0
 refine ay.go G2.h rfl fun B Q hB hQ=>?_
 have⟨hF,hP,hZ,gA⟩:=bD
 repeat' (first
 |simp only[go_sem,hF,hP,hZ,gA,zz]
 |(with_reducible first|refine bj fun hc=>?_|refine bk fun hc=>?_|refine bl (fun hc=>?_) fun hc=>?_)<;>(try simp only[hc,bs,↓reduceIte]at h)<;>try simp only[hc]
 |(with_reducible refine az hQ ?_;simp only[bt,bx,bY,bZ,go_sem,hF,hP,hZ,gA,zz];try exact cB))
theorem MP (t:aA) (s:St):ay Tryz.prog 96 [.str t] s (.agg (bA (pV t))) s:=by
 refine ay.pure ?_ rfl (by simp[D.ok,fK]) s
 unfold S0
 refine ay.go EZ.h rfl fun B Q hB hQ=>?_
 have⟨hF,hP,hZ,gA⟩:=bD
 repeat' (first
 |simp only[go_sem,hF,hP,hZ,gA,pV]
 |(with_reducible first|refine bj fun hc=>?_|refine bk fun hc=>?_|refine bl (fun hc=>?_) fun hc=>?_)<;>(try simp only[hc,bs,↓reduceIte]at h)<;>try simp only[hc]
 |(with_reducible refine az hQ ?_;simp only[bt,bx,bY,bZ,go_sem,hF,hP,hZ,gA,pV];try exact cB))
theorem P0 (op:Int) (a b:Ex) (s:St):ay Tryz.prog 97 [.int .i64 op, .agg (bA a), .agg (bA b)] s (.agg (bA (Co op a b))) s:=by
 refine ay.pure ?_ (by simp[D.bg,D.ok,fK]) (by simp[D.ok,fK]) s
 unfold S0
 refine ay.go G3.h rfl fun B Q hB hQ=>?_
 have⟨hF,hP,hZ,gA⟩:=bD
 repeat' (first
 |simp only[go_sem,hF,hP,hZ,gA,Co]
 |(with_reducible first|refine bj fun hc=>?_|refine bk fun hc=>?_|refine bl (fun hc=>?_) fun hc=>?_)<;>(try simp only[hc,bs,↓reduceIte]at h)<;>try simp only[hc]
 |(with_reducible refine az hQ ?_;simp only[bt,bx,bY,bZ,go_sem,hF,hP,hZ,gA,Co];try exact cB))
def source:aA:= [103,108,111,98,97,108,32,103,59,10,112,114,111,99,32,109,97,105,110,40,41,32,123,10,32,118,97,114,32,118,59,10,32,118,32,61,32,50,59,10,32,103,32,61,32,112,40,51,44,32,114,101,102,32,118,41,59,10,32,112,114,105,110,116,32,118,59,10,32,112,114,105,110,116,32,103,59,10,125,10,112,114,111,99,32,112,40,120,44,32,114,101,102,32,121,41,32,123,10,32,121,32,61,32,121,32,43,32,120,59,10,32,105,102,32,40,121,32,62,32,57,41,32,123,10,32,32,103,111,116,111,32,101,59,10,32,125,10,32,114,101,116,117,114,110,32,121,59,10,101,58,32,125,10]
theorem Tk (s:St):ay Tryz.prog 44 [] s (.str source) s:=by
 refine ay.pure ?_ rfl rfl s
 unfold S0
 refine ay.go Bt.h rfl fun B Q hB hQ=>?_
 have⟨hF,hP,hZ,gA⟩:=bD
 repeat' (first
 |simp only[go_sem,hF,hP,hZ,gA,source]
 |(with_reducible first|refine bj fun hc=>?_|refine bk fun hc=>?_|refine bl (fun hc=>?_) fun hc=>?_)<;>(try simp only[hc,bs,↓reduceIte]at h)<;>try simp only[hc]
 |((with_reducible refine az hQ ?_);(try cases h);simp only[bt,bx,bY,bZ,go_sem,hF,hP,hZ,gA,source];try exact cB)
 |(cases h;done))
def nX:Pg:=⟨[[103]],[
 ⟨[109,97,105,110],[],[[118]],[
  ⟨1,1,[],[118],[],zz 2,false,[],[],[]⟩,
  ⟨2,4,[],[103],[112],lN,false,[⟨false,[],zz 3⟩,⟨true,[118],lN⟩],[],[]⟩,
  ⟨3,3,[],[],[],pV [118],false,[],[],[]⟩,
  ⟨4,3,[],[],[],pV [103],false,[],[],[]⟩],[]⟩,
 ⟨[112],[⟨[120],false⟩,⟨[121],true⟩],[],[
  ⟨5,1,[],[121],[],Co 8 (pV [121]) (pV [120]),false,[],[],[]⟩,
  ⟨6,5,[],[],[],Co 12 (pV [121]) (zz 9),false,[],[⟨7,10,[],[101],[],lN,false,[],[],[]⟩],[]⟩,
  ⟨8,9,[],[],[],pV [121],true,[],[],[]⟩],[[101]]⟩]⟩
theorem ZV (s:St):ay Tryz.prog 45 [] s (.agg (bf nX)) s:=by
 refine ay.pure ?_ rfl (by simp[D.ok,fm]) s
 unfold S0
 refine ay.go EU.h rfl fun B Q hB hQ=>?_
 have⟨hF,hP,hZ,gA⟩:=bD
 repeat' (first
 |simp only[go_sem,hF,hP,hZ,gA,nX]
 |(with_reducible refine CU (acq _ _) ?_)
 |(with_reducible refine CU (MP _ _) ?_)
 |(with_reducible refine CU (P0 _ _ _ _) ?_)
 |(with_reducible refine az hQ ?_;simp only[bt,bx,bY,bZ,go_sem,hF,hP,hZ,gA];repeat' (first|exact Ok.out|with_reducible refine dZ ?_ ?_|(simp;done))))
 repeat' (first|exact Ok.out|with_reducible refine Wk.agg ?_|with_reducible refine Wk.rows ?_|with_reducible refine Wk.slice ?_|with_reducible refine fT.cons ?_ ?_|with_reducible refine gw.cons ?_ ?_)
open Go.Proofs
def Pg.ag1 (p:Pg) (n:Int):aA:=match p.procs[(wX n p.procs.length).toNat]? with|some f=>f.name|none=> []
open Go.Proofs
theorem ZW:Bp.iJ:=⟨nz (by decide +kernel) (by decide +kernel),by decide +kernel⟩
open Go.Proofs
theorem Tl {p:Pg} (h:(p.arity.1==0)=true) (h2:(p.alias.1==0)=true) : ∀ v∈p.pre,(v.kind==4)=true→v.nV p=true:=by
 unfold Pg.alias at h2
 rw[if_pos h]at h2
 intro v hv hk
 have : ∀ l:List Sm,((ou 8 (Cl p l)).1==0)=true→∀ v∈l,(v.kind==4)=true→v.nV p=true:=by
  intro l
  induction l with
  |nil=>intro _ v m;cases m
  | cons a l ih=>
   intro h v m hk
   simp only[Cl]at h
   split at h
   ·cases h
   ·rename_i c
    rcases zan.1 m with rfl|m
    ·simpa[hk]using c
    ·exact ih h v m hk
 exact this _ h2 v hv hk
theorem HP {p:Pg} : ∀ {l:List Sm},(∀ v∈l,(v.kind==4)=true→v.nV p=true)→Cl p l=none
 | [],_=>rfl
 |v::l,h=>by
  simp only[Cl]
  rw[if_neg,HP fun w m=>h w (zav _ m)]
  intro c
  simp only[zam,zaF]at c
  rw[h v (zaD ..) c.1]at c
  exact absurd c.2 (by simp)
section
variable {a b:aA}
end
section
variable {a b:aA} (ha:isName a=true) (hb:isName b=true)
include ha hb
end
def Pg.check (p:Pg):Int×Int:=if p.scope.1==0 then(if p.arity.1==0 then(if p.jump.1==0 then p.alias else p.jump)else p.arity)else p.scope
end Go.Abs
namespace Go.Abs
theorem HQ {p:Pg} {f:Pc} {procs:List aA} : ∀ {l:List Sm},(∀ v∈l,v.known p f procs=true)→uN p f procs l=none
 | [],_=>rfl
 |v::l,h=>by
  simp only[uN,h v (zaD ..),if_true]
  exact HQ fun w m=>h w (zav _ m)
theorem Cp {p:Pg} {procs:List aA} : ∀ {l:List Pc},(∀ f∈l,dG (p.globals++f.own)=false∧∀ v∈Sm.cP f.body,v.known p f procs=true)→pS p procs l=(0,0)
 | [],_=>rfl
 |f::l,h=>by
  obtain⟨h1,h2⟩:=h f (zaD ..)
  simp only[pS,h1,zab,if_false,HQ h2]
  exact Cp fun w m=>h w (zav _ m)
theorem P2 {p:Pg} (hm:p.may=true) (h1:dG p.globals=false) (h2:dG p.pn=false) (h3:p.nB=false) (h4 : ∀ f∈p.procs,dG (p.globals++f.own)=false∧∀ v∈Sm.cP f.body,v.known p f p.pn=true):p.scope=(0,0):=by
 unfold Pg.scope
 rw[if_pos hm,h1,h2,h3]
 exact Cp h4
theorem JM {p:Pg} : ∀ {l:List Sm},(∀ v∈l,(v.kind==4)=true→v.kN p=true)→Cc p l=none
 | [],_=>rfl
 |v::l,h=>by
  simp only[Cc]
  rw[if_neg,JM fun w m=>h w (zav _ m)]
  intro c
  simp only[zam,zaF]at c
  rw[h v (zaD ..) c.1]at c
  exact absurd c.2 (by simp)
theorem P3 {p:Pg} (hs:(p.scope.1==0)=true) (h : ∀ v∈p.pre,(v.kind==4)=true→v.kN p=true):p.arity=(0,0):=by
 unfold Pg.arity
 rw[if_pos hs,JM h]
 rfl
theorem Cq {jl fin:List aA} : ∀ {l:List (Sm×Int)} {seen:List aA},qO jl fin seen l=none↔oq seen (du (l.map Prod.fst)++fin)=false∧∀ q∈l,jd jl q.1 q.2=true
 | [],seen=>by
  simp only[qO,zaj,du,zaR,zbn,false_imp_iff,implies_true,and_true]
  rw[yP]
  cases oq seen fin<;>simp
 | (v,lp)::l,seen=>by
  simp only[qO,zaf,du,zaC]
  rw[yP,JI v.labels]
  cases h:oq seen v.labels
  ·simp only [zab,if_false,if_true,za1]
   cases h2:jd jl v lp
   ·simp only [zab,if_false,reduceCtorEq,false_iff,not_and]
    intro _ h3
    have:=h3 (v,lp) (zaD ..)
    rw[h2]at this;cases this
   ·simp only [if_true,Cq (l:=l),zan]
    constructor
    ·rintro⟨h3,h4⟩
     refine⟨h3,fun q hq=>?_⟩
     rcases hq with rfl|hq
     ·exact h2
     ·exact h4 q hq
    ·rintro⟨h3,h4⟩
     exact⟨h3,fun q hq=>h4 q (.inr hq)⟩
  ·simp
theorem w7 : ∀ {l:List Pc},qP l=none↔∀ f∈l,dG f.labels=false∧∀ q∈f.nU,jd f.labels q.1 q.2=true
 | []=>by simp[qP]
 | f::l=>by
  have e:qO f.labels f.fin [] f.nU=none↔dG f.labels=false∧∀ q∈f.nU,jd f.labels q.1 q.2=true:=by
   rw[Cq,WI];rfl
  simp only[qP,zan]
  split
  ·rename_i id h
   simp only[reduceCtorEq,false_iff]
   intro h3
   rw[e.2 (h3 f (.inl rfl))]at h
   cases h
  ·rename_i h
   rw[w7 (l:=l)]
   constructor
   ·intro h3 g hg
    rcases hg with rfl|hg
    ·exact e.1 h
    ·exact h3 g hg
   ·exact fun h3 g hg=>h3 g (.inr hg)
structure Pg.Right (p:Pg):Prop where
 may:p.may=true
 tg:dG p.globals=false
 tp:dG p.pn=false
 main:p.nB=false
 own : ∀ f∈p.procs,dG (p.globals++f.own)=false
 known : ∀ f∈p.procs,∀ v∈Sm.cP f.body,v.known p f p.pn=true
 jl : ∀ f∈p.procs,dG f.labels=false
 leads : ∀ f∈p.procs,∀ q∈f.nU,jd f.labels q.1 q.2=true
 fits : ∀ v∈p.pre,(v.kind==4)=true→v.kN p=true
 single : ∀ v∈p.pre,(v.kind==4)=true→v.nV p=true
theorem Pg.Right.scope {p:Pg} (h:p.Right):p.scope=(0,0):=P2 h.may h.tg h.tp h.main fun f hf=>⟨h.own f hf,h.known f hf⟩
theorem Pg.Right.arity {p:Pg} (h:p.Right):p.arity=(0,0):=P3 (by rw[h.scope];rfl) h.fits
theorem Pg.Right.jump {p:Pg} (h:p.Right):p.jump=(0,0):=by
 unfold Pg.jump
 rw[h.scope,w7.2 fun f hf=>⟨h.jl f hf,h.leads f hf⟩]
 rfl
theorem Pg.Right.alias {p:Pg} (h:p.Right):p.alias=(0,0):=by
 unfold Pg.alias
 rw[h.arity,HP h.single]
 rfl
theorem Pg.Right.check {p:Pg} (h:p.Right):p.check=(0,0):=by
 unfold Pg.check
 rw[h.scope,h.arity,h.jump,h.alias]
 rfl
theorem Tn {p:Pg} (h:(p.check.1==0)=true):p.Right:=by
 unfold Pg.check at h
 by_cases h1:(p.scope.1==0)=true
 ·rw [if_pos h1]at h
  by_cases h2:(p.arity.1==0)=true
  ·rw [if_pos h2]at h
   by_cases h3:(p.jump.1==0)=true
   ·rw [if_pos h3]at h
    obtain⟨k1,k2,k3,k4⟩:=AT h1
    have hj:qP p.procs=none:=by
     unfold Pg.jump at h3
     rw[if_pos h1]at h3
     cases e:qP p.procs with
     |none=>rfl
     |some id=>rw[e]at h3;cases h3
    rw[w7]at hj
    exact⟨yH h1,k1,k2,k3,fun f hf=>(k4 f hf).1,fun f hf=>(k4 f hf).2,fun f hf=>(hj f hf).1,fun f hf=>(hj f hf).2,(HF h2).2,Tl h2 h⟩
   ·rw[if_neg h3]at h;exact absurd h h3
  ·rw[if_neg h2]at h;exact absurd h h2
 ·rw[if_neg h1]at h;exact absurd h h1
def TKs (l:List eY):Prop:=∀ t∈l,(t.kind=1→isName t.text=true)∧(t.kind=2→0≤t.n)
def GK {α:Type} (r:Rd) (o:Option (α×Rd)) (Q:α→Prop):Prop:=∀ p,o=some p→p.2.l=r.l∧(p.2.good=true→r.good=true∧Q p.1)
def GKR (r:Rd) (o:Option Rd):Prop:=∀ p,o=some p→p.l=r.l∧(p.good=true→r.good=true)
def SmL (s:Sm):Prop:=∀ L,cL L=true→({s with labels:=L} : Sm).one=true
def ahR (s:aA):Bool:=s == [98,114,101,97,107] ||s == [99,111,110,116,105,110,117,101] ||s == [114,101,116,117,114,110] ||s == [103,111,116,111] ||s == [114,101,97,100] ||s == [112,114,105,110,116]
mutual
def Sm.xy (d:Int):Sm→Prop
 |⟨id,kind,labels,name,proc,x,has,args,aV,aN⟩=>(⟨id,kind,labels,name,proc,x,has,args,aV,aN⟩:Sm).one=true∧d≤12∧Sm.uS (d+1) aV∧Sm.uS (d+1) aN
def Sm.uS (d:Int):List Sm→Prop
 | []=>True
 |s::l=>s.xy d∧Sm.uS d l
end
theorem Sm.P4 (d:Int) (s:Sm):s.xy d↔s.one=true∧d≤12∧Sm.uS (d+1) s.aV∧Sm.uS (d+1) s.aN:=by cases s;simp only[Sm.xy]
theorem Sm.HR {d:Int} {s:Sm} (h:s.xy d) : ∀ {l:List Sm},Sm.uS d l→Sm.uS d (l++ [s])
 | [],_=>⟨h,trivial⟩
 |t::l,hl=>⟨hl.1,Sm.HR h hl.2⟩
def aiq (d:Int) (s:Sm):Prop:=∀ L,cL L=true→({s with labels:=L} : Sm).xy d
structure Pc.xy (f:Pc):Prop where
 name:isName f.name=true
 params:Pm.dR f.params=true∧f.params.length≤8
 vars:cL f.vars=true∧(f.vars.length:Int)≤16
 fin:cL f.fin=true
 body:Sm.uS 1 f.body
mutual
theorem Sm.JN (b:Bool) (n:Nat) : ∀ s:Sm,(Sm.num b n s).2=n+s.fH
 |⟨_,_,_,_,_,_,_,_,aV,aN⟩=>by
  simp only[Sm.num,Sm.fH]
  rw[Sm.qu b _ aN,Sm.qu b _ aV];omega
theorem Sm.qu (b:Bool) (n:Nat) : ∀ l:List Sm,(Sm.cv b n l).2=n+Sm.dm l
 | []=>rfl
 |s::l=>by
  simp only[Sm.cv,Sm.dm]
  rw[Sm.qu b _ l,Sm.JN b _ s];omega
end
theorem Sm.one_num (b:Bool) (n:Nat) (s:Sm):((Sm.num b n s).1).one=s.one:=by
 obtain⟨id,kind,labels,name,proc,x,has,args,aV,aN⟩:=s
 simp only[Sm.num,Sm.one,Sm.uJ,Sm.hasName,Sm.oj,Sm.GY]
 rfl
def pW (n:Nat) (lE:List It):Prop:=∀ (j:Nat) (it:It),lE[j]? = some it→it.s.id=((n+j+1:Nat):Int)∧it.deep≤12∧it.s.one=true
theorem pW.app {n k:Nat} {a b:List It} (ha:pW n a) (hk:a.length=k) (hb:pW (n+k) b):pW n (a++b):=by
 intro j it h
 rcases zaI j a.length with hj|hj
 ·rw [zao hj]at h
  exact ha j it h
 ·rw [zau hj]at h
  obtain⟨h1,h2⟩:=hb _ it h
  refine⟨?_,h2⟩
  rw[h1];congr 1;omega
theorem pW.nil (n:Nat):pW n []:=fun j it h=>by simp at h
mutual
theorem P5 : ∀ (s:Sm) (n:Nat) (deep bM:Int) (aN:Bool) (out:List It),s.xy deep→out.length+s.fH≤200→∃ lE,fj deep bM aN out (Sm.num true n s).1=out++lE∧lE.length=s.fH∧pW n lE
 | ⟨id,kind,labels,name,proc,x,has,args,aV,e⟩,n,deep,bM,aN,out,h,hc=>by
  have h0:=(Sm.P4 _ _).1 h
  obtain⟨h1,h2,h3,h4⟩:=h0
  dsimp only at h3 h4
  have fJ:=Sm.one_num true n ⟨id,kind,labels,name,proc,x,has,args,aV,e⟩
  simp only[Sm.num,↓reduceIte,fj]at fJ ⊢
  rw[h1]at fJ
  simp only[Sm.fH]at hc
  have hd:decide (deep≤12)=true:=by simp;omega
  simp only[hd,↓reduceIte]
  obtain⟨i1,e1,l1,p1⟩:=uk aV (n+1) (deep+1) ((n+1:Nat):Int) false (out++ [⟨⟨((n+1:Nat):Int),kind,labels,name,proc,x,has,args,(Sm.cv true (n+1) aV).1,(Sm.cv true (Sm.cv true (n+1) aV).2 e).1⟩,deep,bM,aN⟩]) h3 (by simp;omega)
  rw[e1,Sm.qu]
  obtain⟨i2,e2,l2,p2⟩:=uk e (n+1+Sm.dm aV) (deep+1) ((n+1:Nat):Int) true (out++ [⟨⟨((n+1:Nat):Int),kind,labels,name,proc,x,has,args,(Sm.cv true (n+1) aV).1,(Sm.cv true (n+1+Sm.dm aV) e).1⟩,deep,bM,aN⟩]++i1) h4 (by simp;omega)
  rw[e2]
  rw[Sm.qu]at fJ
  refine⟨_,by rw[zaC,zaC], ?_, ?_⟩
  ·simp only[zai,zal,zaE,Sm.fH];omega
  ·refine pW.app (k:=1) ?_ rfl (pW.app p1 l1 p2)
   intro j it hj
   cases j with
   |zero=>simp at hj;subst hj;exact⟨rfl,h2,fJ⟩
   |succ j=>simp at hj
theorem uk : ∀ (l:List Sm) (n:Nat) (deep bM:Int) (aN:Bool) (out:List It),Sm.uS deep l→out.length+Sm.dm l≤200→∃ lE,dc deep bM aN out (Sm.cv true n l).1=out++lE∧lE.length=Sm.dm l∧pW n lE
 | [],n,deep,bM,aN,out,h,hc=>⟨[],by simp only[Sm.cv,dc,zaA],rfl,pW.nil n⟩
 |s::l,n,deep,bM,aN,out,h,hc=>by
  simp only[Sm.dm]at hc
  have hle:decide ((out.length:Int)≤200)=true:=by simp only[decide_eq_true_eq];omega
  simp only[Sm.cv,dc,hle,↓reduceIte]
  obtain⟨i1,e1,l1,p1⟩:=P5 s n deep bM aN out h.1 (by omega)
  rw[e1,Sm.JN]
  obtain⟨i2,e2,l2,p2⟩:=uk l (n+s.fH) deep bM aN (out++i1) h.2 (by simp;omega)
  rw[e2]
  exact⟨i1++i2,by rw[zaC],by simp only[zai,Sm.dm];omega,pW.app p1 l1 p2⟩
end
def Pc.n4:List Pc→Nat
 | []=>0
 |f::l=>Sm.dm f.body+Pc.n4 l
theorem HS : ∀ (l:List Pc) (n:Nat) (out:List It),(∀ f∈l,f.xy)→out.length+Pc.n4 l≤200→∃ lE,allM out (Pc.cv n l)=out++lE∧lE.length=Pc.n4 l∧pW n lE
 | [],n,out,_,_=>⟨[],by simp only[Pc.cv,allM,zaA],rfl,pW.nil n⟩
 |f::l,n,out,h,hc=>by
  simp only[Pc.n4]at hc
  obtain⟨i1,e1,l1,p1⟩:=uk f.body n 1 0 false [] (h f (zaD ..)).body (by simp;omega)
  have ef:Pc.flat {f with body:=(Sm.cv true n f.body).1} = i1:=by simp only[Pc.flat];rw[e1];rfl
  have hle:decide (((out++i1).length:Int) > 200)=false:=by simp only[zai,decide_eq_false_iff_not];omega
  simp only[Pc.cv,allM,ef,hle,zab,↓reduceIte]
  rw[Sm.qu]
  obtain⟨i2,e2,l2,p2⟩:=HS l (n+Sm.dm f.body) (out++i1) (fun g hg=>h g (zav _ hg)) (by simp;omega)
  rw[e2]
  exact⟨i1++i2,by rw[zaC],by simp only[zai,Pc.n4];omega,pW.app p1 l1 p2⟩
theorem pW.dR : ∀ (l:List It) (n:Nat),pW n l→It.dR n l=true
 | [],_,_=>rfl
 |i::l,n,h=>by
  obtain⟨h1,h2,h3⟩:=h 0 i rfl
  have e1:(i.s.id != ((n+1:Nat):Int))=false:=by rw[h1];simp
  have e2:decide (i.deep > 12)=false:=by simp;omega
  simp only[It.dR,e1,e2,h3,zax,Bool.or_self,zab,↓reduceIte]
  refine pW.dR l (n+1) fun j it hj=>?_
  have:=h (j+1) it (by simpa using hj)
  refine⟨?_,this.2⟩
  rw[this.1];congr 1;omega
theorem Ez : ∀ (l:List Pc) (n:Nat),(∀ f∈l,f.xy)→Pc.ie (Pc.cv n l)=true
 | [],_,_=>rfl
 |f::l,n,h=>by
  have k:=h f (zaD ..)
  have e1:decide ((f.params.length:Int) > 8)=false:=by have:=k.params.2;simp only[decide_eq_false_iff_not];omega
  have e2:decide ((f.vars.length:Int) > 16)=false:=by have:=k.vars.2;simp only[decide_eq_false_iff_not];omega
  simp only[Pc.cv,Pc.ie,k.name,e1,e2,k.vars.1,k.fin,k.params.1,zax,Bool.or_self,zab,↓reduceIte]
  exact Ez l _ fun g hg=>h g (zav _ hg)
theorem Pc.JO : ∀ (l:List Pc) (n:Nat),(Pc.cv n l).length=l.length
 | [],_=>rfl
 |g::l,n=>by simp only[Pc.cv,zal,Pc.JO l]
theorem MQ {p:Pg} (h1:cL p.globals=true) (h2:(p.globals.length:Int)≤16) (h3 : ∀ f∈p.procs,f.xy) (h4:p.procs.length≤16) (h5:Pc.n4 p.procs≤200):p.number.may=true∧p.number.all.length=Pc.n4 p.procs:=by
 obtain⟨lE,e,hl,hi⟩:=HS p.procs 0 [] h3 (by simpa using h5)
 have ea:p.number.all=lE:=by simp only[Pg.all,Pg.number];rw[e];rfl
 have e1:decide ((p.globals.length:Int) > 16)=false:=by simp only[decide_eq_false_iff_not];omega
 have e2:decide (((Pc.cv 0 p.procs).length:Int) > 16)=false:=by rw[Pc.JO];simp only[decide_eq_false_iff_not];omega
 have e3:decide ((lE.length:Int) > 200)=false:=by simp only[decide_eq_false_iff_not];omega
 refine⟨?_,by rw[ea,hl]⟩
 have e0:p.number.may=(if decide ((p.globals.length:Int) > 16) ||decide (((Pc.cv 0 p.procs).length:Int) > 16) || !(cL p.globals)then false
  else if !(Pc.ie (Pc.cv 0 p.procs))then false else if decide ((p.number.all.length:Int) > 200)then false else It.dR 0 p.number.all):=rfl
 rw[e0,ea]
 simp only[e1,e2,h1,Ez _ 0 h3,e3,zax,Bool.or_self,zab,↓reduceIte]
 exact pW.dR lE 0 hi
def Sm.core (v:Sm):Sm:= {v with id:=0,aV:= [],aN:= []}
theorem um (v:Sm):v.core.said=v.said:=by cases v;rfl
theorem o9 (v:Sm):v.core.kind=v.kind:=rfl
theorem Cr (p:Pg) (f:Pc) (l:List aA) (v:Sm):v.core.known p f l=v.known p f l:=by unfold Sm.known;rw[um];rfl
theorem uq (p:Pg) (v:Sm):v.core.kN p=v.kN p:=rfl
theorem Ag (p:Pg) (v:Sm):v.core.nV p=v.nV p:=rfl
theorem P6 (jl:List aA) (v:Sm) (lp:Int):jd jl v.core lp=jd jl v lp:=rfl
theorem P7 (jl:List aA) (v:Sm) (lp lp':Int) (h:(lp != 0)=(lp' != 0)):jd jl v lp=jd jl v lp':=by unfold jd;rw[h]
mutual
def Sm.cp (b:Bool):Sm→List (Sm×Bool)
 |⟨id,kind,labels,name,pc,x,has,args,aV,aN⟩=>((⟨id,kind,labels,name,pc,x,has,args,aV,aN⟩:Sm).core,b)::(Sm.iD (b ||kind==6) aV++Sm.iD (b ||kind==6) aN)
def Sm.iD (b:Bool):List Sm→List (Sm×Bool)
 | []=> []
 |s::l=>s.cp b++Sm.iD b l
end
mutual
theorem ZX (proc up next loop:Int) : ∀ s:Sm,(∀ v∈s.pre,v.id≠0)→(s.sZ proc up next loop).map (fun m=>(m.s.core,m.loop != 0))=s.cp (loop != 0)
 | ⟨id,kind,labels,name,pc,x,has,args,aV,aN⟩,h=>by
  have hid:id≠0:=h ⟨id,kind,labels,name,pc,x,has,args,aV,aN⟩ (by simp[Sm.pre])
  have h1 : ∀ v∈Sm.cP aV,v.id≠0:=fun v m=>h v (by simp[Sm.pre,m])
  have h2 : ∀ v∈Sm.cP aN,v.id≠0:=fun v m=>h v (by simp[Sm.pre,m])
  have e:((if kind==6 then id else loop) != 0)=((loop != 0) ||kind==6):=by
   cases hk:(kind==6)<;>simp[hid]
  simp only[Sm.sZ,Sm.cp,zaf,zah,zA _ _ _ _ aV h1,zA _ _ _ _ aN h2,e]
theorem zA (proc up next loop:Int) : ∀ l:List Sm,(∀ v∈Sm.cP l,v.id≠0)→(Sm.jx proc up next loop l).map (fun m=>(m.s.core,m.loop != 0))=Sm.iD (loop != 0) l
 | [],_=>rfl
 |s::l,h=>by
  simp only[Sm.jx,Sm.iD,zah]
  rw[ZX _ _ _ _ s fun v m=>h v (by simp[Sm.cP,m]),zA _ _ _ _ l fun v m=>h v (by simp[Sm.cP,m])]
end
def Pc.iD (f:Pc):List (Sm×Bool):=Sm.iD false f.body
theorem P8 {f:Pc} (h : ∀ v∈Sm.cP f.body,v.id≠0):f.nU.map (fun q=>(q.1.core,q.2 != 0))=f.iD:=by
 have:=zA 0 0 (-1) 0 f.body h
 unfold Pc.nU Pc.iD
 rw[List.map_map]
 exact this
mutual
theorem ZY (b:Bool) : ∀ s:Sm,(s.cp b).map Prod.fst=s.pre.map Sm.core
 |⟨id,kind,labels,name,pc,x,has,args,aV,aN⟩=>by simp only[Sm.cp,Sm.pre,zaf,zah,su _ aV,su _ aN]
theorem su (b:Bool) : ∀ l:List Sm,(Sm.iD b l).map Prod.fst=(Sm.cP l).map Sm.core
 | []=>rfl
 |s::l=>by simp only[Sm.iD,Sm.cP,zah,ZY _ s,su _ l]
end
theorem Ah : ∀ l:List Sm,du (l.map Sm.core)=du l
 | []=>rfl
 |v::l=>by simp only[zaf,du,Ah l];rfl
theorem w8 (f:Pc):f.labels=du (f.iD.map Prod.fst)++f.fin:=by
 unfold Pc.labels Pc.iD
 rw[su,Ah]
theorem Cs {x:aA} : ∀ {l:List Sm},x∈du l↔∃ v∈l,x∈v.labels
 | []=>by simp[du]
 |v::l=>by simp[du,Cs (l:=l)]
theorem MR {l m:List Sm} (h:List.Sublist l m):List.Sublist (du l) (du m):=by
 induction h with
 |slnil=>exact List.Sublist.refl _
 |cons a _ ih=>exact ih.trans (List.sublist_append_right _ _)
 |cons_cons a _ ih=>exact List.Sublist.append (List.Sublist.refl _) ih
theorem yS {x:aA} : ∀ {l:List Sm},x∈oE l↔∃ v∈l,x∈v.said
 | []=>by simp[oE]
 |v::l=>by simp[oE,yS (l:=l)]
structure Pc.Part (g f:Pc):Prop where
 name:g.name=f.name
 params:g.params=f.params
 vars:g.vars=f.vars
 fin:g.fin=f.fin
 sub:List.Sublist g.iD f.iD
 air : ∀ c∈g.iD,c.1.kind=10→c.1.name∈f.labels→c.1.name∈g.labels
structure Pg.Part (q p:Pg):Prop where
 uK:q.globals=p.globals
 procs : ∃ l:List (Pc×Pc),q.procs=l.map Prod.fst∧(l.map Prod.snd).Perm p.procs∧∀ x∈l,Pc.Part x.1 x.2
theorem pX {nm:aA} : ∀ {l:List Pc} {f:Pc},(l.map (·.name)).Nodup→(iB nm l=some f↔f∈l∧f.name=nm)
 | [],f,_=>by simp[iB]
 | a::l,f,h=>by
  simp only[zaf,zbD]at h
  simp only[iB]
  by_cases e:(a.name==nm)=true
  ·rw [if_pos e]
   have e':a.name=nm:=by simpa using e
   constructor
   ·intro h1;cases h1;exact⟨zaD ..,e'⟩
   ·rintro⟨h1,h2⟩
    rcases zan.1 h1 with rfl|h1
    ·rfl
    ·exact absurd (zaL (f:=fun x:Pc=>x.name) h1) (by show f.name∉_;rw[h2, ← e'];exact h.1)
  ·rw [if_neg e,pX h.2]
   constructor
   ·exact fun⟨h1,h2⟩=>⟨zav _ h1,h2⟩
   ·rintro⟨h1,h2⟩
    rcases zan.1 h1 with rfl|h1
    ·exact absurd (by simpa using h2) e
    ·exact⟨h1,h2⟩
theorem uT {nm:aA} {T T':List aA} (hT : ∀ x,dg T' x=true→dg T x=true) : ∀ {l:List Ar} {seen:List aA},ku nm T seen l=true→ku nm T' seen l=true
 | [],_,_=>rfl
 | a::l,seen,h=>by
  simp only[ku]at h ⊢
  split
  ·rename_i hr
   rw[if_pos hr]at h
   split at h
   ·cases h
   ·rename_i hc
    simp only[zay,not_or,zbk]at hc
    have hx:dg T' a.name=false:=by
     cases e:dg T' a.name with
     |false=>rfl
     |true=>rw[hT _ e]at hc;exact absurd hc.2.2 (by simp)
    rw[if_neg (by simp only[zay,not_or,zbk];exact⟨hc.1,hc.2.1,hx⟩)]
    exact uT hT h
  ·rename_i hr
   rw[if_neg hr]at h
   exact uT hT h
theorem JP {p:Pg} (h:p.may=true) {f:Pc} (hf:f∈p.procs) : ∀ v∈Sm.cP f.body,v.id≠0:=fun v m=>by
 have hm:v∈p.pre:=by simp only[Pg.pre,zbo,zaH];exact⟨_,⟨f,hf,rfl⟩,m⟩
 obtain⟨i,hi⟩:=zbC hm
 have:=Hp h hi
 omega
theorem JQ {jl:List aA} {f:Pc} (h : ∀ v∈Sm.cP f.body,v.id≠0):(∀ q∈f.nU,jd jl q.1 q.2=true)↔∀ c∈f.iD,jd jl c.1 (if c.2 then 1 else 0)=true:=by
 rw[← P8 h]
 have key : ∀ q:Sm×Int,jd jl q.1.core (if(q.2 != 0)=true then 1 else 0)=jd jl q.1 q.2:=fun q=>by
  rw[P6]
  exact P7 jl q.1 _ _ (by cases (q.2 != 0)<;>rfl)
 constructor
 ·intro h1 c hc
  obtain⟨q,hq,rfl⟩:=zaH.1 hc
  rw[key];exact h1 q hq
 ·intro h1 q hq
  have:=h1 _ (zaL hq)
  rw[key]at this;exact this
set_option maxRecDepth 8000
open Go.Proofs
abbrev US (N:Nat):Prop:=∀ (l:List Sm) (n:Nat),Sm.aM l<N→n+Sm.aM l<1000000000→∀ s:St,ay Tryz.prog 87 [.slice .shared 13 (l.map aH), .int .i64 (n:Int)] s
 (.tuple [.slice .shared 13 ((Sm.cv true n l).1.map aH), .int .i64 ((Sm.cv true n l).2:Int)]) s
theorem Fb {N:Nat} (hN:N<10000000) (ih:US N) (l:List Sm) (n:Nat) (hl:Sm.aM l<N+1) (hn:n+Sm.aM l<1000000000) :
 ay Tryz.prog 87 [.slice .shared 13 (l.map aH), .int .i64 (n:Int)] S0 (.tuple [.slice .shared 13 ((Sm.cv true n l).1.map aH), .int .i64 ((Sm.cv true n l).2:Int)]) S0:=by
 have hlen:l.length<10000001:=by have:=Sm.cd l;omega
 have hle:=Sm.mn true n l
 generalize hR:Sm.cv true n l=R at *
 unfold S0
 refine ay.go zG.h rfl fun B Q hB hQ=>?_
 have⟨hF,hP,hZ,gA⟩:=bD
 repeat' (first
 |simp only[go_sem,hF,hP,hZ,gA]
 |(with_reducible refine az hQ ?_;exact aR))
 refine aY.ko 6 13 rfl ?_
 simp only[go_sem,hF,hP,hZ,gA]
 refine cr 0 1 (aY.ind (ι:=List Sm×Nat×List Sm×Nat) (fun i=>l.drop i.2.1=i.1∧i.2.1=i.2.2.1.length∧(i.2.2.1++(Sm.cv true i.2.2.2 i.1).1,(Sm.cv true i.2.2.2 i.1).2)=R∧i.2.2.2+Sm.aM i.1≤n+Sm.aM l) (fun i=>i.1.length)
  (fun i=> [(1, .int .i64 (i.2.2.2:Int)),(6, .slice (.tok 0) 13 (i.2.2.1.map aH)),(10, .slice .shared 13 (l.map aH)),(11, .int .i64 (l.length:Int)),(12, .int .i64 (i.2.1:Int))])
  (fun i=>⟨[],[some i.2.1]⟩) ?_ (l,0,[],n) ⟨rfl,rfl,by simpa using hR,zag _⟩)
 rintro⟨rest,k,acc,m⟩ ⟨h1,h2,h3,h4⟩ IH
 dsimp only at h1 h2 h3 h4
 subst h2
 cases rest with
 |nil=>
  have hF:=drop_nil h1
  simp only[Sm.cv,zaA]at h3
  subst h3
  repeat' (first
 |simp only[go_sem,hF,hP,hZ,gA]
 |(with_reducible refine az hQ ?_;exact aR))
 |cons y rest=>
  obtain⟨hP,g2,hF,g4⟩:=drop_cons h1
  have hk:acc.length<4611686018427387904:=by omega
  have cV:y.size≤N:=by have:=Sm.bC (zac hP);omega
  obtain⟨id,kind,labels,name,proc,x,has,args,aV,aN⟩:=y
  simp only[Sm.size]at cV
  simp only[Sm.aM,Sm.size]at h4
  have de:(acc.length+1)*209≤aT:=by simp only[aT];omega
  have rX:=fun s=>o7 (v:=⟨id,kind,labels,name,proc,x,has,args,aV,aN⟩) (by dsimp only;omega) s
  simp only[Sm.bare,bU,zaj]at rX
  simp only[Sm.cv,Sm.num,if_true]at h3
  have c1:=ih aV (m+1) (by omega) (by omega)
  have l1:=Sm.mn true (m+1) aV
  obtain⟨T,hT⟩ : ∃ T,Sm.cv true (m+1) aV=T:=⟨_,rfl⟩
  rw[hT]at h3 c1 l1
  have c2:=ih aN T.2 (by omega) (by omega)
  have l2:=Sm.mn true T.2 aN
  obtain⟨E,hE⟩ : ∃ E,Sm.cv true T.2 aN=E:=⟨_,rfl⟩
  rw[hE]at h3 c2 l2
  have wm:IntKind.wrap .i64 ((m:Int)+1)=((m+1:Nat):Int):=by rw[cT]<;>omega
  repeat' (first
 |simp only[go_sem,hF,hP,hZ,gA,de,wm]
 |(with_reducible refine CU (rX _) ?_)
 |(with_reducible refine CU (c1 _) ?_)
 |(with_reducible refine CU (c2 _) ?_)
 |(with_reducible refine az hQ ?_;exact aR))
  refine cD 0 1 ?_ ?_ (IH (rest,acc.length+1,acc++ [⟨((m+1:Nat):Int),kind,labels,name,proc,x,has,args,T.1,E.1⟩],E.2) ⟨g2,by simp,by rw[← h3];simp,by dsimp only;omega⟩ (zaa _))
  ·(simp only[go_sem,hF,hP,hZ,gA,aC hk,bU];try exact bd)
  ·(simp only[go_sem,hF,hP,hZ,gA,aC hk,bU];try exact bd)
theorem HT : ∀ N,N<10000000→US N:=by
 intro N
 induction N with
 |zero=>intro _ l n hl;exact absurd hl (zaG _)
 |succ N ih=>
  intro hN l n hl hn s
  exact(Fb (by omega) (ih (by omega)) l n hl hn).pure (by simp[D.bg,D.ok,Tag.ok,gR]) (by simp[D.bg,D.ok,Tag.ok,gR]) s
theorem MS {l:List Sm} {n:Nat} (h:Sm.aM l<9000000) (hn:n+Sm.aM l<1000000000) (s:St):ay Tryz.prog 87 [.slice .shared 13 (l.map aH), .int .i64 (n:Int)] s
 (.tuple [.slice .shared 13 ((Sm.cv true n l).1.map aH), .int .i64 ((Sm.cv true n l).2:Int)]) s:=
 HT 9999999 (by omega) l n (by omega) hn s
mutual
def Sm.UT (id:Int):Sm→Sm
 |⟨i,kind,labels,name,proc,x,has,args,aV,aN⟩=>⟨i,kind,labels,name,proc,x,has,args,Sm.yT id aV,Sm.yT id aN⟩
def Sm.yT (id:Int):List Sm→List Sm
 | []=> []
 |s::l=>if s.id==id then Sm.yT id l else s.UT id::Sm.yT id l
end
abbrev ahS (id:Int) (N:Nat):Prop:=∀ l:List Sm,Sm.aM l<N→∀ s:St,ay Tryz.prog 89 [.slice .shared 13 (l.map aH), .int .i64 id] s (.slice .shared 13 ((Sm.yT id l).map aH)) s
abbrev Tp (g:Nat) (l:List Pc):List D:= .int .i64 (g:Int)::(l.map bn).flatten
abbrev acr (len k n:Nat) (g:Nat):Tm:= [(1, .ptr 0 0),(2, .ptr 1 0),(3, .ptr 2 0),(4, .int .i64 (n:Int)),(9, .bX 5 3 g len),(10, .int .i64 (len:Int)),(11, .int .i64 (k:Int))]
theorem P9 {p:Pg} (hp:p.size<1000000) (h0:p.procs≠ []) (st:St):ay Tryz.prog 34 [.agg (bf p)] st (.agg (bf p.number)) st:=by
 refine ay.pure ?_ (by simp[D.bg,D.ok,fm]) (by simp[D.ok,fm]) st
 have xA:=fun s=>Pl hp h0 s
 obtain⟨globals,procs⟩:=p
 simp only[Pg.size]at hp
 have hlen:procs.length<1000000:=by have:=Pc.cd procs;omega
 have rN:((⟨globals,procs⟩:Pg).put ep).procs.length=procs.length:=zat ..
 have UE:((⟨globals,procs⟩:Pg).put ep).procs=procs.map (Pc.cw (bL ep)):=rfl
 have dL:0<procs.length:=zbf.2 h0
 dsimp only at xA
 obtain⟨C,hC⟩ : ∃ C,((⟨globals,procs⟩:Pg).put ep).procs=C:=⟨_,rfl⟩
 rw[hC]at xA rN UE
 obtain⟨g,hg⟩ : ∃ g,procs.length - 1=g:=⟨_,rfl⟩
 have gv:fI C=Tp g C:=by rw[← hg, ← rN]
 have xx:bf (⟨globals,procs⟩:Pg) = [.slice .shared 1 (globals.map encStr), .slice .shared 5 (procs.map bn)]:=rfl
 simp only[gv,hg,xx]at xA
 generalize hR:Pc.cv 0 procs=R
 have MT:bf (⟨globals,procs⟩:Pg).number = [.slice .shared 1 (globals.map encStr), .slice .shared 5 (R.map bn)]:=by
  unfold Pg.number;rw[hR];rfl
 rw[MT]
 unfold S0
 refine ay.go pD.h rfl fun B Q hB hQ=>?_
 have⟨hF,hP,hZ,gA⟩:=bD
 have loop : ∀ (rest Ct done:List Pc) (n:Nat),procs.drop done.length=rest→Ct=rest.map (Pc.cw (bL ep))→done++Pc.cv n rest=R→n+Pc.aM rest≤Pc.aM procs→
  aY Tryz.prog B 32 Q00 (dF 0 (eK (eo Tryz.prog B 32 Q01 Q) Q)) (acr procs.length done.length n g) ⟨[bf ⟨globals,procs⟩,[.junk, .junk],[.slice .shared 1 (globals.map encStr), .bX 5 3 g procs.length],Tp g (done++Ct)],[]⟩:=by
  intro rest
  induction rest with
  | nil=>
   intro Ct done n h1 h2 h3 h4
   have hF:=drop_nil h1
   have:Ct = []:=by simpa using h2
   subst this
   simp only[Pc.cv,zaA]at h3
   subst h3
   rw[zaA]
   have hdl:procs.length=(done.map bn).length:=by
    rw[zat]
    have h5:=zbA.1 h1
    have h6:=congrArg List.length hR
    have : ∀ (l:List Pc) (n:Nat),(Pc.cv n l).length=l.length:=by
     intro l
     induction l with
     |nil=>intro n;rfl
     |cons a l ih=>intro n;simp[Pc.cv,ih]
    rw[this]at h6
    exact h6
   refine aY.yz 3 g 5 (done.map bn) [(2, .ptr 1 0),(3, .ptr 2 0),(10, .int .i64 (procs.length:Int)),(11, .int .i64 (done.length:Int))] [bf ⟨globals,procs⟩,[.junk, .junk],[.slice .shared 1 (globals.map encStr), .slice .shared 5 (done.map bn)]]
    (by rw[hB];exact zar _) rfl ⟨9,_, .inl rfl⟩ (fun row hr=>by obtain⟨a,_,rfl⟩:=zaH.1 hr;rfl) ?_ ?_ (aY.kF ?_)
   ·simp only [go_sem]
    repeat' (first|exact Ok.out|with_reducible refine dZ ?_ ?_)
   ·show fT [kJ _ _ _ _ _ (bf _),kJ _ _ _ _ _ [.junk, .junk],kJ _ _ _ _ _ [.slice .shared 1 _, .bX _ _ _ _]] _
    simp only[go_sem,hdl,and_self,if_true]
    exact Ok.out
   ·repeat' (first
 |simp only[go_sem,hF,hP,hZ,gA]
 | (with_reducible refine az hQ ?_;exact aR))
  | cons y rest ih=>
   intro Ct done n h1 h2 h3 h4
   obtain⟨hP,g2,hF,g4⟩:=drop_cons h1
   subst h2
   have hk:done.length<4611686018427387904:=by omega
   simp only[Pc.aM,Pc.size]at h4
   simp only[Pc.cv]at h3
   have Xo:=fun s=>MS (l:=y.body) (n:=n) (by omega) (by omega) s
   have hle:=Sm.mn true n y.body
   obtain⟨b,hb⟩ : ∃ b,Sm.cv true n y.body=b:=⟨_,rfl⟩
   rw[hb]at h3 Xo hle
   have ra:eH (((done++Pc.cw (bL ep) y::rest.map (Pc.cw (bL ep))).map bn).flatten) (done.length*5+3) [.slice .shared 13 (b.1.map aH)] =
    ((done++ {y with body:=b.1}::rest.map (Pc.cw (bL ep))).map bn).flatten:=Mz bn 5 (fun f=>rfl) done _ (Pc.cw (bL ep) y) {y with body:=b.1} 3 _ rfl (by simp)
   have ib:done.length*5+3+1≤(((done++Pc.cw (bL ep) y::rest.map (Pc.cw (bL ep))).map bn).flatten).length:=by rw[nr];simp;omega
   have IH:=ih (rest.map (Pc.cw (bL ep))) (done++ [{y with body:=b.1}]) b.2 (by rw[zai];exact g2) rfl (by rw[← h3];simp) (by omega)
   have e7:(done++ [{y with body:=b.1}]).length=done.length+1:=by simp
   have e8:done++ [{y with body:=b.1}]++rest.map (Pc.cw (bL ep))=done++ {y with body:=b.1}::rest.map (Pc.cw (bL ep)):=by simp
   rw[e7,e8]at IH
   generalize done++ {y with body:=b.1}::rest.map (Pc.cw (bL ep))=L2 at *
   rw[zaf]
   generalize done++Pc.cw (bL ep) y::rest.map (Pc.cw (bL ep))=L1 at *
   clear ih
   refine aY.kF ?_
   repeat' (first
 |simp only[go_sem,hF,hP,hZ,gA,g4,ra,ib]
 |(with_reducible refine CU (Xo _) ?_)
 | (with_reducible refine az hQ ?_;exact aR))
   refine cD 4 0 ?_ ?_ (IH)
   ·(simp only[go_sem,hF,hP,hZ,gA,aC hk];try exact bd)
   ·(simp only[go_sem,hF,hP,hZ,gA,aC hk];try exact bd)
 repeat' (first
 |simp only[go_sem,hF,hP,hZ,gA]
 |(with_reducible refine CU (xA _) ?_)
 |(with_reducible refine az hQ ?_;exact aR))
 have iu:=aY.oN (P:=Tryz.prog) (a:=Q00) (Q:=dF 0 (eK (eo Tryz.prog B 32 Q01 Q) Q)) (nt:=32) (tm:= [(1, .ptr 0 0),(2, .ptr 1 0),(3, .ptr 3 0),(4, .int .i64 ((0:Nat):Int)),(9, .bX 5 2 g procs.length),(10, .int .i64 (procs.length:Int)),(11, .int .i64 ((0:Nat):Int))])
  (s:=⟨[bf ⟨globals,procs⟩,[.junk, .junk],Tp g C,[.slice .shared 1 (globals.map encStr), .bX 5 2 g procs.length]],[]⟩)
  hB [0,1,3,2] _ _ (by decide) (by simp) (by simp[kq,D.ct,D.bw,D.bg,D.ok,Tag.bw,Tag.ok,mr,nO,pN,dQ,oo,fh,lX,nP]) (by simp[mf,Tm.get,D.bw,D.ok,Tag.bw,Tag.ok,iW,jY])
  (loop procs C [] 0 rfl UE (by simpa using hR) (by simp))
 refine cr 4 0 (iu)
def Pc.UT (id:Int) (f:Pc):Pc:= {f with body:=Sm.yT id f.body}
def Pg.UT (p:Pg) (id:Int):Pg:= {p with procs:=p.procs.map (Pc.UT id)}
abbrev ahT (id:Int) (len k:Nat) (g:Nat):Tm:= [(1, .int .i64 id),(2, .ptr 0 0),(4, .ptr 1 0),(5, .ptr 2 0),(10, .bX 5 3 g len),(11, .int .i64 (len:Int)),(12, .int .i64 (k:Int))]
def Pg.rot (p:Pg) (n:Nat):Pg:= {p with procs:=p.procs.drop n++p.procs.take n}
theorem JR : ∀ (l:List Pc) (n:Nat) (h:Sh),h.lo.length=n→h.hi.length=n→oc h.L.length ((l.map fun f=>Sm.cP f.body).flatten)→
 ∃ lo hi,Sh.go n h l = ⟨h.L++Dt n l,h.lo++lo,h.hi++hi⟩∧lo.length=l.length∧hi.length=l.length∧
  ∀ (i:Nat) (f:Pc),l[i]? = some f→∃ a e:List Im,lo[i]? = some (((h.L++a).length:Int)+1)∧hi[i]? = some (((h.L++a++Sm.jx ((n+i:Nat):Int) 0 (-1) 0 f.body).length:Int)+1)∧Dt n l=a++Sm.jx ((n+i:Nat):Int) 0 (-1) 0 f.body++e
 | [],n,h,hl,hh,_=>⟨[],[],by simp[Sh.go,Dt],rfl,rfl,fun i f h=>by simp at h⟩
 | f::l,n,h,hl,hh,hi=>by
  simp only[zaf,zbt]at hi
  simp only[Sh.go,Dt]
  have e1:=wW (n:Int) 0 (-1) 0 h.L f.body hi.left
  obtain⟨lo,gB,h2,h3,h4,h5⟩:=JR l (n+1) ⟨Im.rows (n:Int) 0 (-1) 0 h.L f.body,h.lo++ [(h.L.length:Int)+1],h.hi++ [((Im.rows (n:Int) 0 (-1) 0 h.L f.body).length:Int)+1]⟩ (by simp[hl]) (by simp[hh]) (by
   show oc (Im.rows (n:Int) 0 (-1) 0 h.L f.body).length _
   rw[e1,zai,HA];exact hi.right)
  refine⟨((h.L.length:Int)+1)::lo,(((Im.rows (n:Int) 0 (-1) 0 h.L f.body).length:Int)+1)::gB, ?_,by simp[h3],by simp[h4],fun i g gB=>?_⟩
  ·rw[h2,e1];simp
  ·cases i with
   |zero=>
    simp only[zaK,Option.some.injEq]at gB
    subst gB
    exact⟨[],Dt (n+1) l,by simp,by rw[e1];simp,by simp⟩
   |succ i=>
    simp only[zaW]at gB
    obtain⟨a,e,g1,g2,g3⟩:=h5 i g gB
    have en:n+1+i=n+(i+1):=by omega
    rw[en]at g2 g3
    refine⟨Sm.jx n 0 (-1) 0 f.body++a,e, ?_, ?_,by rw[g3];simp⟩
    ·rw[zaW,g1,e1];simp
    ·rw[zaW,g2,e1];simp
theorem ZZ {p:Pg} (hb:p.may=true) {i:Nat} {f:Pc} (hf:p.procs[i]? = some f) (hs:Pc.aM p.procs<1000000000) (s:St) :
 ay Tryz.prog 65 [.dr (gK p) 0, .int .i64 (i:Int)] s (.slice .shared 17 ((Sm.jx (i:Int) 0 (-1) 0 f.body).map eA)) s:=by
 obtain⟨lo,hi,h1,h2,h3,h4⟩:=JR p.procs 0 ⟨[],[],[]⟩ rfl rfl (WH hb)
 obtain⟨a,e,g1,g2,g3⟩:=h4 i f hf
 simp only[za6,zaR]at g1 g2 g3 h1
 refine YI hs (a:=a) (e:=e) ?_ ?_ ?_ s
 ·show(Sh.go 0 ⟨[],[],[]⟩ p.procs).lo[i]? = _
  rw[h1];exact g1
 ·show(Sh.go 0 ⟨[],[],[]⟩ p.procs).hi[i]? = _
  rw[h1];exact g2
 ·show(Sh.go 0 ⟨[],[],[]⟩ p.procs).L=_
  rw[h1];exact g3
theorem ay.aeT {P:Program} {f:FuncId} {pre post:List D} {rows kg:List (List D)} {z z' k k':Nat} {b:Bool} (h:ay P f (pre++ .slice (.tok 0) z rows::post) ⟨[],[some k]⟩ (.tuple [.slice (.tok 0) z' kg, .bool b]) ⟨[],[some k']⟩)
 (hp:D.bg 0 0 pre=true) (ha:D.bg 0 0 post=true) (hw:D.fu 0 0 rows=true) (N1:D.fu 0 0 kg=true)
 {s:St} {t:Nat} (ht:s.aw[t]? = some (some k)):ay P f (pre++ .slice (.tok t) z rows::post) s (.tuple [.slice (.tok t) z' kg, .bool b]) ⟨s.av,s.aw.set t (some k')⟩:=by
 refine dt.frame [] [t] h (by simp) (by simp) (by simp) (by simpa using (zae.1 ht).1) rfl (fun i o' ds e1 e2=>by simp at e1) rfl (fun i t' e1=>?_)
  ?_ ?_ ?_
 ·cases i with
  |zero=>simp at e1;subst e1;simp[ht]
  |succ i=>simp at e1
 ·have h1:=dV [] [t] _ hp
  have h2:=dV [] [t] _ ha
  rw[fb]at h1 h2
  simp[fb,D.bw,Tag.bw,h1,h2,ic _ _ _ hw]
 ·have h1:=gp (n':=0) (m':=1) (zag 0) (zar 1) _ hp
  have h2:=gp (n':=0) (m':=1) (zag 0) (zar 1) _ ha
  rw[pz]at h1 h2 ⊢
  simp only[zaE,zal,List.all_append,h1,zbz,List.all_cons,h2,zbu,D.ok,Tag.ok,kV (zar 0) (zar 1) _ hw]
  rfl
 ·rintro _ _ ⟨rfl,rfl⟩
  refine⟨by simp[D.back,D.bw,D.ct,Tag.bw,gM,ic _ _ _ N1], ?_⟩
  simp[St.back,iS]
theorem Z0 {seen l:List aA} (hl:seen.length+l.length<1000000000):ay Tryz.prog 69 [.slice (.tok 0) 1 (seen.map encStr), .slice .shared 1 (l.map encStr)] ⟨[],[some seen.length]⟩
 (.tuple [.slice (.tok 0) 1 ((gT seen l).1.map encStr), .bool (gT seen l).2]) ⟨[],[some (gT seen l).1.length]⟩:=by
 generalize hR:gT seen l=R
 refine ay.go EW.h rfl fun B Q hB hQ=>?_
 have⟨hF,hP,hZ,gA⟩:=bD
 repeat' (first
 |simp only[go_sem,hF,hP,hZ,gA]
 |(with_reducible refine az hQ ?_;exact aR))
 refine cr 0 1 (aY.ind (ι:=List aA×Nat×List aA×Nat) (fun i=>l.drop i.2.1=i.1∧gT i.2.2.1 i.1=R∧i.2.2.2=i.2.2.1.length∧i.2.2.1.length+i.1.length<1000000000) (fun i=>i.1.length)
  (fun i=> [(0, .slice (.tok 0) 1 (i.2.2.1.map encStr)),(8, .slice .shared 1 (l.map encStr)),(9, .int .i64 (l.length:Int)),(10, .int .i64 (i.2.1:Int))]) (fun i=>⟨[],[some i.2.2.2]⟩) ?_ (l,0,seen,seen.length) ⟨rfl,hR,rfl,hl⟩)
 clear hR
 rintro⟨rest,k,out,n⟩ ⟨h1,h2,h3,h4⟩ IH
 dsimp only at h1 h2 h3 h4
 subst h3
 cases rest with
 |nil=>
  have hF:=drop_nil h1
  simp only[gT]at h2
  subst h2
  repeat' (first
 |simp only[go_sem,hF,hP,hZ,gA]
 |(with_reducible refine az hQ ?_;exact aR))
 | cons x rest=>
  obtain⟨hP,g2,hF,g4⟩:=drop_cons h1
  have bH:k<4611686018427387904:=by omega
  simp only[zal]at h4
  have hZ:(out.length+1)*17≤aT:=by unfold aT;omega
  have En:=fun g s=>iz (l:=out) (by omega) x g s
  simp only[gT]at h2
  rcases zad (dg out x)with c1|c1
  ·simp only [c1,if_true]at h2
   subst h2
   repeat' (first
 |simp only[go_sem,hF,hP,hZ,gA,c1]
 |(with_reducible refine CU (En _ _) ?_)
 | (with_reducible refine az hQ ?_;exact aR))
  ·simp only [c1,zab,if_false]at h2
   repeat' (first
 |simp only[go_sem,hF,hP,hZ,gA,c1]
 |(with_reducible refine CU (En _ _) ?_)
 | (with_reducible refine az hQ ?_;exact aR))
   refine cD 0 1 ?_ ?_ (IH (rest,k+1,out++ [x],out.length+1) ⟨g2,h2,by simp,by simp;omega⟩ (zaa _))
   ·(simp only[go_sem,hF,hP,hZ,gA,aC bH,zah,zaf,zaj,encStr];try exact bd)
   ·(simp only[go_sem,hF,hP,hZ,gA,aC bH,zah,zaf,zaj,encStr];try exact bd)
theorem Qa {seen l:List aA} (hl:seen.length+l.length<1000000000) {s:St} {t:Nat} (ht:s.aw[t]? = some (some seen.length)):ay Tryz.prog 69 [.slice (.tok t) 1 (seen.map encStr), .slice .shared 1 (l.map encStr)] s
 (.tuple [.slice (.tok t) 1 ((gT seen l).1.map encStr), .bool (gT seen l).2]) ⟨s.av,s.aw.set t (some (gT seen l).1.length)⟩:=
 (Z0 hl).aeT (pre:= []) (post:= [_]) rfl (by simp[D.bg,D.ok,Tag.ok,dd]) (dd _) (dd _) ht
theorem Tq (x:Im):(eA x)[2]? = some (.slice .shared 1 (x.s.labels.map encStr)):=nd rfl
theorem Qb (x:Im):(eA x)[3]? = some (.str x.s.name):=nd rfl
attribute [go_sem] Tq Qb
def pY (fin:List aA) (label:aA):List Sm→Int×Bool
 | []=>if dg fin label then(-1,true)else(0,false)
 |v::l=>if dg v.labels label then(v.id,true)else pY fin label l
theorem EA (fin:List aA) (label:aA) : ∀ l:List Sm,(pY fin label l).2=dg (du l++fin) label
 | []=>by simp only[pY,du,zaR];split<;>simp_all
 | v::l=>by
  simp only[pY,du,zaC]
  have h:=EA fin label l
  rw[Bool.eq_iff_iff,eD]at h
  split
  ·rename_i c
   exact((eD _ _).2 (zaw.2 (.inl ((eD _ _).1 c)))).symm
  ·rename_i c
   have:label∉v.labels:=fun m=>c ((eD _ _).2 m)
   rw[Bool.eq_iff_iff,h,eD]
   exact⟨fun m=>zaw.2 (.inr m),fun m=>(zaw.1 m).resolve_left this⟩
theorem HU {p:Pg} {v:Sm} (ho:p.iJ) {f:Pc} (hf:f∈p.procs) (hv:v∈Sm.cP f.body):v.labels.length≤900000:=by
 have key : ∀ n:Nat,(∀ s:Sm,s.pre.length≤n→∀ v∈s.pre,v.labels.length≤s.size)∧(∀ l:List Sm,(Sm.cP l).length≤n→∀ v∈Sm.cP l,v.labels.length≤Sm.aM l):=by
  intro n
  induction n with
  |zero=>
   refine⟨fun s h=>by rw[Sm.sR]at h;simp at h,fun l h v m=>?_⟩
   have:=zbe (Nat.le_zero.1 h)
   rw[this]at m;cases m
  | succ n ih=>
   have h1 : ∀ s:Sm,s.pre.length≤n+1→∀ v∈s.pre,v.labels.length≤s.size:=by
    intro s h v m
    rw[Sm.sR]at h m
    simp only[zal,zai]at h
    obtain⟨id,kind,labels,name,proc,x,has,args,aV,aN⟩:=s
    simp only[Sm.size]
    rcases zan.1 m with rfl|m
    ·dsimp only;omega
    ·rcases zaw.1 m with m | m
     ·have:=ih.2 aV (by dsimp only at h;omega) v m;omega
     ·have:=ih.2 aN (by dsimp only at h;omega) v m;omega
   refine⟨h1,fun l=>?_⟩
   induction l with
   |nil=>intro _ v m;cases m
   |cons s l OF=>
    intro h v m
    simp only[Sm.cP,zai]at h
    simp only[Sm.cP]at m
    simp only[Sm.aM]
    rcases zaw.1 m with m|m
    ·have:=h1 s (by omega) v m;omega
    ·have:=OF (by omega) v m;omega
 have h1:=(key (Sm.cP f.body).length).2 f.body (zag _) v hv
 have h2:=Pc.bC hf
 have h3:=ho.procs.2.1
 simp only[Pc.size]at h2
 omega
theorem EB {p:Pg} (ho:p.iJ) {f:Pc} (hf:f∈p.procs):f.fin.length≤900000:=by
 have h2:=Pc.bC hf
 have h3:=ho.procs.2.1
 simp only[Pc.size]at h2
 omega
theorem Cu {p:Pg} (ho:p.iJ) {f:Pc} (hf:f∈p.procs):(Sm.cP f.body).length≤900000:=by
 rw[← wV]
 have:=jO f.body
 have h2:=Pc.bC hf
 have h3:=ho.procs.2.1
 simp only[Pc.size]at h2
 omega
theorem aeU {p:Pg} (ho:p.iJ) (hb:p.may=true) {i:Nat} {f:Pc} (hf:p.procs[i]? = some f) (label:aA) (s:St) :
 ay Tryz.prog 122 [.dr (gK p) 0, .int .i64 (i:Int), .str label] s (.tuple [.int .i64 (pY f.fin label (Sm.cP f.body)).1, .bool (pY f.fin label (Sm.cP f.body)).2]) s:=by
 refine ay.pure ?_ (by simp[D.bg,D.ok,wE]) rfl s
 obtain⟨oS,rl,vK⟩:=ho.procs
 have rZ:=zac hf
 have B9:=fun s=>ZZ hb hf (by omega) s
 have qq:=s5 (i:Int) 0 (-1) 0 f.body
 have HV:=Cu ho rZ
 have aeV:=EB ho rZ
 have Ad:=fun s=>pJ (l:=f.fin) (by omega) label s
 have oV:i<p.procs.length:=(zae.1 hf).1
 generalize hI:Sm.jx (i:Int) 0 (-1) 0 f.body=I at *
 have hIl:I.length≤900000:=by rw[← qq,zat]at HV;exact HV
 obtain⟨R,hR⟩ : ∃ R,pY f.fin label (Sm.cP f.body)=R:=⟨_,rfl⟩
 rw[hR]
 rw[← qq]at hR
 unfold S0
 refine ay.go zI.h rfl fun B Q hB hQ=>?_
 have⟨hF,hP,hZ,gA⟩:=bD
 repeat' (first
 |simp only[go_sem,hF,hP,hZ,gA]
 |(with_reducible refine CU (B9 _) ?_)
 |(with_reducible refine az hQ ?_;exact aR))
 refine cr 0 0 (aY.ind (ι:=List Im×Nat) (fun j=>I.drop j.2=j.1∧pY f.fin label (j.1.map Im.s)=R) (fun j=>j.1.length)
  (fun j=> [(0, .dr (gK p) 0),(1, .int .i64 (i:Int)),(2, .str label),(12, .slice .shared 17 (I.map eA)),(13, .int .i64 (I.length:Int)),(14, .int .i64 (j.2:Int))]) (fun j=>⟨[],[]⟩) ?_ (I,0) ⟨rfl,hR⟩)
 clear hR
 rintro⟨rest,k⟩ ⟨h1,h2⟩ IH
 dsimp only at h1 h2
 cases rest with
 | nil=>
  have hF:=drop_nil h1
  simp only[zaj,pY]at h2
  rcases zad (dg f.fin label)with c1|c1
  ·simp only [c1,if_true]at h2
   subst h2
   repeat' (first
 |simp only[go_sem,hF,hP,hZ,gA,qp,hf,c1]
 |(with_reducible refine CU (Ad _) ?_)
 | (with_reducible refine az hQ ?_;exact aR))
  ·simp only [c1,zab,if_false]at h2
   subst h2
   repeat' (first
 |simp only[go_sem,hF,hP,hZ,gA,qp,hf,c1]
 |(with_reducible refine CU (Ad _) ?_)
 |(with_reducible refine az hQ ?_;exact aR))
 | cons a rest=>
  obtain⟨hP,g2,hF,g4⟩:=drop_cons h1
  have bH:k<4611686018427387904:=by omega
  have Ee:a.s∈Sm.cP f.body:=by rw[← qq];exact zaL (zac hP)
  have rN:=fun s=>pJ (l:=a.s.labels) (by have:=HU ho rZ Ee;omega) label s
  simp only[zaf,pY]at h2
  rcases zad (dg a.s.labels label)with c1|c1
  ·simp only [c1,if_true]at h2
   subst h2
   repeat' (first
 |simp only[go_sem,hF,hP,hZ,gA,c1]
 |(with_reducible refine CU (rN _) ?_)
 | (with_reducible refine az hQ ?_;exact aR))
  ·simp only [c1,zab,if_false]at h2
   repeat' (first
 |simp only[go_sem,hF,hP,hZ,gA,c1]
 |(with_reducible refine CU (rN _) ?_)
 | (with_reducible refine az hQ ?_;exact aR))
   refine cD 0 0 ?_ ?_ (IH (rest,k+1) ⟨g2,h2⟩ (zaa _))
   ·(simp only[go_sem,hF,hP,hZ,gA,aC bH];try exact bd)
   ·(simp only[go_sem,hF,hP,hZ,gA,aC bH];try exact bd)
theorem WR {p:Pg} (ho:p.iJ) (hb:p.may=true) {i:Nat} {f:Pc} (hf:p.procs[i]? = some f) (m:Im) (hm:m.proc=(i:Int)) (s:St) :
 ay Tryz.prog 70 [.dr (gK p) 0, .agg (eA m)] s (.bool (jd f.labels m.s m.loop)) s:=by
 refine ay.pure ?_ (by simp[D.bg,D.ok,wE,Mt]) rfl s
 have rO:=fun s=>aeU ho hb hf m.s.name s
 have Z1:=EA f.fin m.s.name (Sm.cP f.body)
 rw[← hm]at rO
 obtain⟨A,hA⟩ : ∃ A,pY f.fin m.s.name (Sm.cP f.body)=A:=⟨_,rfl⟩
 rw[hA]at rO Z1
 obtain⟨R,hR⟩ : ∃ R,jd f.labels m.s m.loop=R:=⟨_,rfl⟩
 rw[hR]
 unfold jd Pc.labels at hR
 unfold S0
 rcases zad (m.s.kind==7)with c1|c1
 ·simp only [c1,za8,if_true]at hR
  subst hR
  refine ay.go nJ.h rfl fun B Q hB hQ=>?_
  have⟨hF,hP,hZ,gA⟩:=bD
  repeat' (first
 |simp only[go_sem,hF,hP,hZ,gA,c1]
 |(with_reducible refine az hQ ?_;exact aR))
 rcases zad (m.s.kind==8)with c2|c2
 ·simp only [c1,c2,Bool.or_true,if_true]at hR
  subst hR
  refine ay.go nJ.h rfl fun B Q hB hQ=>?_
  have⟨hF,hP,hZ,gA⟩:=bD
  repeat' (first
 |simp only[go_sem,hF,hP,hZ,gA,c1,c2]
 |(with_reducible refine az hQ ?_;exact aR))
 rcases zad (m.s.kind==10)with c3|c3
 ·simp only [c1,c2,c3,Bool.or_self,zab,if_false,if_true, ← Z1]at hR
  subst hR
  refine ay.go nJ.h rfl fun B Q hB hQ=>?_
  have⟨hF,hP,hZ,gA⟩:=bD
  repeat' (first
 |simp only[go_sem,hF,hP,hZ,gA,c1,c2,c3]
 |(with_reducible refine CU (rO _) ?_)
 |(with_reducible refine az hQ ?_;exact aR))
 ·simp only [c1,c2,c3,Bool.or_self,zab,if_false]at hR
  subst hR
  refine ay.go nJ.h rfl fun B Q hB hQ=>?_
  have⟨hF,hP,hZ,gA⟩:=bD
  repeat' (first
 |simp only[go_sem,hF,hP,hZ,gA,c1,c2,c3]
 |(with_reducible refine az hQ ?_;exact aR))
end Go.Abs
namespace Go.Abs
set_option maxRecDepth 8000
open Go.Proofs
theorem WS {p:Pg} (h:p.iJ) (kP:(p.scope.1==0)=true) (s:St):ay Tryz.prog 68 [.agg (bf p)] s (.dr (gK p) 0) s:=by
 refine ay.pure ?_ (by simp[D.bg,D.ok,fm]) (by simp[D.ok,wE]) s
 obtain⟨oS,rl,vK⟩:=h.procs
 have rM:=fun s=>sX h s
 have dq:=fun s=>BH (p:=p) (by omega) s
 have b0:(p.scope.1 != 0) = !(p.scope.1==0):=rfl
 rw[kP]at b0
 unfold S0
 refine ay.go vq.h rfl fun B Q hB hQ=>?_
 have⟨hF,hP,hZ,gA⟩:=bD
 repeat' (first
 |simp only[go_sem,hF,hP,hZ,gA,b0,zax]
 |(with_reducible refine CU (rM _) ?_)
 |(with_reducible refine CU (dq _) ?_)
 |(with_reducible refine az hQ ?_;exact aR))
theorem WT {p:Pg} (h:p.iJ) (kP:(p.scope.1==0)=false) (s:St):ay Tryz.prog 68 [.agg (bf p)] s .er s:=by
 refine ay.pure ?_ (by simp[D.bg,D.ok,fm]) rfl s
 have rM:=fun s=>sX h s
 have b0:(p.scope.1 != 0) = !(p.scope.1==0):=rfl
 rw[kP]at b0
 unfold S0
 refine ay.go vq.h rfl fun B Q hB hQ=>?_
 have⟨hF,hP,hZ,gA⟩:=bD
 repeat' (first
 |simp only[go_sem,hF,hP,hZ,gA,b0,zaB]
 |(with_reducible refine CU (rM _) ?_)
 |(with_reducible refine az hQ ?_;exact aR))
mutual
theorem Tr {pr up next loop:Int} : ∀ (s:Sm) (m:Im),m∈s.sZ pr up next loop→m.proc=pr
 | ⟨id,kind,labels,name,pc,x,has,args,aV,aN⟩,m,h=>by
  simp only[Sm.sZ]at h
  rcases zan.1 h with rfl|h
  ·rfl
  ·rcases zaw.1 h with h | h
   ·exact ur aV m h
   ·exact ur aN m h
theorem ur {pr up next loop:Int} : ∀ (l:List Sm) (m:Im),m∈Sm.jx pr up next loop l→m.proc=pr
 |s::l,m,h=>by
  simp only[Sm.jx]at h
  rcases zaw.1 h with h|h
  ·exact Tr s m h
  ·exact ur l m h
end
theorem uU : ∀ a b:List Sm,du (a++b)=du a++du b
 | [],b=>rfl
 |v::a,b=>by simp only[zaJ,du,uU a b,zaC]
mutual
theorem I5 : ∀ s:Sm,(du s.pre).length≤s.size
 |⟨id,kind,labels,name,pc,x,has,args,aV,aN⟩=>by
  have:=pZ aV;have:=pZ aN
  simp only[Sm.pre,du,uU,zai,Sm.size];omega
theorem pZ : ∀ l:List Sm,(du (Sm.cP l)).length≤Sm.aM l
 | []=>zag _
 |s::l=>by
  have:=I5 s;have:=pZ l
  simp only[Sm.cP,uU,zai,Sm.aM];omega
end
theorem Qc (seen l:List aA):(gT seen l).1.length≤seen.length+l.length:=(Ev l seen).2
theorem Ts {p:Pg} (h:p.iJ) (s:St):ay Tryz.prog 25 [.agg (bf p)] s (.agg [.int .i64 p.jump.1, .int .i64 p.jump.2]) s:=by
 refine ay.pure ?_ (by simp[D.bg,D.ok,fm]) rfl s
 obtain⟨oS,rl,vK⟩:=h.procs
 obtain⟨R,hR⟩ : ∃ R,p.jump=R:=⟨_,rfl⟩
 rw[hR]
 unfold Pg.jump at hR
 unfold S0
 rcases zad (p.scope.1==0)with kP|kP
 case inr=>
  have hs:=fun s=>WT h kP s
  simp only[kP,zab,if_false]at hR
  subst hR
  refine ay.go vn.h rfl fun B Q hB hQ=>?_
  have⟨hF,hP,hZ,gA⟩:=bD
  repeat' (first
 |simp only[go_sem,hF,hP,hZ,gA]
 |(with_reducible refine CU (hs _) ?_)
 |(with_reducible refine az hQ ?_;exact aR))
 have hs:=fun s=>WS h kP s
 have hb:=yH kP
 simp only[kP,if_true]at hR
 refine ay.go vn.h rfl fun B Q hB hQ=>?_
 have⟨hF,hP,hZ,gA⟩:=bD
 repeat' (first
 |simp only[go_sem,hF,hP,hZ,gA]
 |(with_reducible refine CU (hs _) ?_)
 |(with_reducible refine az hQ ?_;exact aR))
 refine cr 2 0 (aY.ind (ι:=List Pc×Nat) (fun i=>p.procs.drop i.2=i.1∧vU 7 (qP i.1)=R) (fun i=>i.1.length)
  (fun i=> [(1, .ptr 0 0),(2, .ptr 1 0),(3, .dr (gK p) 0),(16, .slice .shared 5 (p.procs.map bn)),(17, .int .i64 (p.procs.length:Int)),(18, .int .i64 (i.2:Int))]) (fun i=>⟨[bf p,[.int .i64 0, .int .i64 0]],[]⟩) ?_ (p.procs,0) ⟨rfl,hR⟩)
 clear hR
 rintro⟨rest,k⟩ ⟨h1,hR⟩ IH
 dsimp only at h1 hR
 cases rest with
 |nil=>
  have hF:=drop_nil h1
  simp only[qP,vU]at hR
  subst hR
  repeat' (first
 |simp only[go_sem,hF,hP,hZ,gA]
 |(with_reducible refine az hQ ?_;exact aR))
 | cons f rest=>
  obtain⟨hP,g2,hF,g4⟩:=drop_cons h1
  have bH:k<4611686018427387904:=by omega
  have rZ:=zac hP
  have B9:=fun s=>ZZ hb hP (by omega) s
  have qq:=s5 (k:Int) 0 (-1) 0 f.body
  have vQ:=Td (k:Int) f
  have Ms:=fun m=>ur (pr:=(k:Int)) (up:=0) (next:= -1) (loop:=0) f.body m
  have HV:=Cu h rZ
  have aeV:=EB h rZ
  have Z2:(du (Sm.cP f.body)).length≤900000:=by
   have h1:=pZ f.body
   have h2:=Pc.bC rZ
   simp only[Pc.size]at h2
   omega
  rw[← qq]at Z2
  generalize hI:Sm.jx (k:Int) 0 (-1) 0 f.body=I at *
  have hIl:I.length≤900000:=by rw[← qq,zat]at HV;exact HV
  simp only[qP, ← vQ]at hR
  obtain⟨J,hJ⟩ : ∃ J,qO f.labels f.fin [] (I.map Im.pair)=J:=⟨_,rfl⟩
  rw[hJ]at hR
  have hld:=fun(m:Im) (hm:m∈I) s=>WR h hb hP m (Ms m hm) s
  repeat' (first
 |simp only[go_sem,hF,hP,hZ,gA]
 |(with_reducible refine CU (B9 _) ?_)
 | (with_reducible refine az hQ ?_;exact aR))
  refine aY.ko 6 1 rfl ?_
  simp only[go_sem,hF,hP,hZ,gA]
  refine cr 3 1 (aY.ind (ι:=List Im×Nat×List aA×Nat) (fun i=>I.drop i.2.1=i.1∧qO f.labels f.fin i.2.2.1 (i.1.map Im.pair)=J∧i.2.2.2=i.2.2.1.length∧i.2.2.1.length+(du (i.1.map Im.s)).length≤900000) (fun i=>i.1.length)
   (fun i=> [(1, .ptr 0 0),(2, .ptr 1 0),(3, .dr (gK p) 0),(5, .ptr 2 0),(6, .slice (.tok 0) 1 (i.2.2.1.map encStr)),(16, .slice .shared 5 (p.procs.map bn)),(17, .int .i64 (p.procs.length:Int)),(18, .int .i64 (k:Int)),
    (25, .slice .shared 17 (I.map eA)),(26, .int .i64 (I.length:Int)),(27, .int .i64 (i.2.1:Int))]) (fun i=>⟨[bf p,[.int .i64 0, .int .i64 0],bn f],[some i.2.2.2]⟩) ?_ (I,0,[],0) ⟨rfl,hJ,rfl,by simpa using Z2⟩)
  clear hJ
  rintro⟨oD,k2,seen,n2⟩ ⟨j1,j2,j3,j4⟩ yx
  dsimp only at j1 j2 j3 j4
  subst j3
  cases oD with
  | nil=>
   have AV:=drop_nil j1
   simp only[zaj,qO]at j2
   simp only[zaj,du,zaE,za4]at j4
   have EC:=fun {s:St} {t:Nat} (ht:s.aw[t]? = some (some seen.length))=>Qa (seen:=seen) (l:=f.fin) (by omega) ht
   obtain⟨P1,Z3⟩ : ∃ P1,gT seen f.fin=P1:=⟨_,rfl⟩
   rw[Z3]at j2 EC
   rcases zad P1.2 with c1|c1
   ·simp only [c1,if_true]at j2
    subst j2
    simp only at hR
    repeat' (first
 |simp only[go_sem,hF,hP,hZ,gA,AV,c1,zax]
 |(with_reducible refine CU (EC (by with_unfolding_all rfl)) ?_)
 | (with_reducible refine az hQ ?_;exact aR))
    refine cD 2 0 ?_ ?_ (IH (rest,k+1) ⟨g2,hR⟩ (zaa _))
    ·(simp only[go_sem,hF,hP,hZ,gA,aC bH];try exact bd)
    ·(simp only[go_sem,hF,hP,hZ,gA,aC bH];try exact bd)
   ·simp only [c1,zab,if_false]at j2
    subst j2
    simp only[vU]at hR
    subst hR
    repeat' (first
 |simp only[go_sem,hF,hP,hZ,gA,AV,c1,zaB]
 |(with_reducible refine CU (EC (by with_unfolding_all rfl)) ?_)
 | (with_reducible refine az hQ ?_;exact aR))
  | cons m oD=>
   obtain⟨iC,j5,mJ,j6⟩:=drop_cons j1
   have oZ:k2<4611686018427387904:=by omega
   have hmm:=zac iC
   have UG:=fun s=>hld m hmm s
   simp only[zaf,Im.pair,qO]at j2
   simp only[zaf,du,zai]at j4
   have EC:=fun {s:St} {t:Nat} (ht:s.aw[t]? = some (some seen.length))=>Qa (seen:=seen) (l:=m.s.labels) (by omega) ht
   have Ub:=Qc seen m.s.labels
   obtain⟨P1,Z3⟩ : ∃ P1,gT seen m.s.labels=P1:=⟨_,rfl⟩
   rw[Z3]at j2 EC Ub
   rcases zad P1.2 with c1|c1
   ·rcases zad (jd f.labels m.s m.loop)with c2 | c2
    ·simp only [c1,c2,if_true]at j2
     repeat' (first
 |simp only[go_sem,hF,hP,hZ,gA,iC,mJ,c1,c2,zax]
 |(with_reducible refine CU (EC (by with_unfolding_all rfl)) ?_)
 |(with_reducible refine CU (UG _) ?_)
 | (with_reducible refine az hQ ?_;exact aR))
     refine cD 3 1 ?_ ?_ (yx (oD,k2+1,P1.1,P1.1.length) ⟨j5,j2,rfl,by dsimp only;omega⟩ (zaa _))
     ·(simp only[go_sem,hF,hP,hZ,gA,aC oZ];try exact bd)
     ·(simp only[go_sem,hF,hP,hZ,gA,aC oZ];try exact bd)
    ·simp only [c1,c2,if_true,zab,if_false]at j2
     subst j2
     simp only[vU]at hR
     subst hR
     repeat' (first
 |simp only[go_sem,hF,hP,hZ,gA,iC,mJ,c1,c2,zax,zaB]
 |(with_reducible refine CU (EC (by with_unfolding_all rfl)) ?_)
 |(with_reducible refine CU (UG _) ?_)
 | (with_reducible refine az hQ ?_;exact aR))
   ·simp only [c1,zab,if_false]at j2
    subst j2
    simp only[vU]at hR
    subst hR
    repeat' (first
 |simp only[go_sem,hF,hP,hZ,gA,iC,mJ,c1,zaB]
 |(with_reducible refine CU (EC (by with_unfolding_all rfl)) ?_)
 |(with_reducible refine CU (UG _) ?_)
 |(with_reducible refine az hQ ?_;exact aR))
theorem Tv (x:It):(fQ x)[2]? = some (.slice .shared 1 (x.s.labels.map encStr)):=nd rfl
theorem Qd (x:It):(fQ x)[14]? = some (.int .i64 x.bM):=nd rfl
attribute [go_sem] Tv Qd
end Go.Abs
namespace Go.Abs
set_option maxRecDepth 8000
open Go.Proofs
theorem WU : ∀ n,n<1000000000→∀ l:List Sm,Sm.aM l<n→ay Tryz.prog 86 [.slice .shared 13 (l.map aH)] S0 (.int .i64 (Sm.dm l:Int)) S0:=by
 intro n
 induction n with
 |zero=>intro _ l h;omega
 |succ n ih=>
 intro hn l hv
 have hl:=Sm.cd l
 have hk : ∀ y∈l,(∀ s,ay Tryz.prog 86 [.slice .shared 13 (y.aV.map aH)] s (.int .i64 (Sm.dm y.aV:Int)) s)∧(∀ s,ay Tryz.prog 86 [.slice .shared 13 (y.aN.map aH)] s (.int .i64 (Sm.dm y.aN:Int)) s)∧
  y.fH=1+Sm.dm y.aV+Sm.dm y.aN:=fun y hy=>by
  have h1:=Sm.bC hy
  have cV:Sm.aM y.aV<y.size∧Sm.aM y.aN<y.size∧y.fH=1+Sm.dm y.aV+Sm.dm y.aN:=by
   obtain⟨_,_,_,_,_,_,_,_,_,_⟩:=y
   simp only[Sm.size];exact⟨by omega,by omega,rfl⟩
  exact⟨fun s=>(ih (by omega) y.aV (by omega)).pure (by simp only[D.bg,D.ok,Tag.ok,gR];rfl) rfl s,fun s=>(ih (by omega) y.aN (by omega)).pure (by simp only[D.bg,D.ok,Tag.ok,gR];rfl) rfl s,cV.2.2⟩
 have px:=jO l
 unfold S0
 refine ay.go C6.h rfl fun B Q hB hQ=>?_
 have⟨hF,hP,hZ,gA⟩:=bD
 repeat' (first
 |simp only[go_sem,hF,hP,hZ,gA]
 |(with_reducible refine az hQ ?_;exact aR))
 refine cr 0 0 (aY.ind (ι:=List Sm×Nat×Nat) (fun i=>l.drop i.2.1=i.1∧i.2.2+Sm.dm i.1=Sm.dm l+i.1.length) (fun i=>i.1.length)
  (fun i=> [(0, .slice .shared 13 (l.map aH)),(3, .int .i64 (i.2.2:Int)),(7, .slice .shared 13 (l.map aH)),(8, .int .i64 (l.length:Int)),(9, .int .i64 (i.2.1:Int))]) (fun i=>⟨[],[]⟩) ?_ (l,0,l.length) ⟨rfl,Nat.add_comm _ _⟩)
 rintro⟨rest,k,c⟩ ⟨g1,g2⟩ IH
 dsimp only at g1 g2
 cases rest with
 |nil=>
  have hF:=drop_nil g1
  simp only[Sm.dm,za4,zaE]at g2
  subst g2
  repeat' (first
 |simp only[go_sem,hF,hP,hZ,gA]
 |(with_reducible refine az hQ ?_;exact aR))
 |cons y rest=>
  obtain⟨hP,g3,hF,g4⟩:=drop_cons g1
  obtain⟨Z4,hy2,hy3⟩:=hk y (zac hP)
  simp only[Sm.dm,zal]at g2
  have Ba:=Sm.bC (zac hP)
  have Ja:rest.length≤l.length:=by have:=congrArg List.length g1;simp only[zbh,zal]at this;omega
  have w1:IntKind.wrap .i64 ((k:Int)+1)=((k+1:Nat):Int):=by rw[cT]<;>omega
  have w2:IntKind.wrap .i64 ((Sm.dm y.aV:Int)+(Sm.dm y.aN:Int))=((Sm.dm y.aV+Sm.dm y.aN:Nat):Int):=by rw[cT]<;>omega
  have w3:IntKind.wrap .i64 ((c:Int)+((Sm.dm y.aV+Sm.dm y.aN:Nat):Int))=((c+(Sm.dm y.aV+Sm.dm y.aN):Nat):Int):=by rw[cT]<;>omega
  repeat' (first
 |simp only[go_sem,hF,hP,hZ,gA,w1,w2,w3]
 |(with_reducible refine CU (Z4 _) ?_)
 |(with_reducible refine CU (hy2 _) ?_)
 |(with_reducible refine az hQ ?_;exact aR))
  refine cr 0 0 (IH (rest,k+1,c+(Sm.dm y.aV+Sm.dm y.aN)) ⟨g3,by dsimp only;omega⟩ (zaa _))
theorem WV {l:List Sm} (h:Sm.aM l+1<1000000000) (s:St):ay Tryz.prog 86 [.slice .shared 13 (l.map aH)] s (.int .i64 (Sm.dm l:Int)) s:=
 (WU _ h l (zaa _)).pure (by simp only[D.bg,D.ok,Tag.ok,gR];rfl) rfl s
def Pc.nD:List Pc→Nat
 | []=>0
 |f::l=>Sm.dm f.body+Pc.nD l
theorem JS : ∀ l:List Pc,Pc.nD l≤Pc.aM l
 | []=>zag _
 |f::l=>by
  have:=JS l;have:=jO f.body
  simp only[Pc.nD,Pc.aM,Pc.size];omega
theorem JT {p:Pg} (h:p.size+1<1000000000) (s:St):ay Tryz.prog 33 [.agg (bf p)] s (.int .i64 (Pc.nD p.procs:Int)) s:=by
 refine ay.pure ?_ (by simp[D.bg,D.ok,fm]) rfl s
 have hs:Pc.aM p.procs+1<1000000000:=by simp only[Pg.size]at h;omega
 have hl:=Pc.cd p.procs
 have xA:=JS p.procs
 unfold S0
 refine ay.go C3.h rfl fun B Q hB hQ=>?_
 have⟨hF,hP,hZ,gA⟩:=bD
 repeat' (first
 |simp only[go_sem,hF,hP,hZ,gA]
 |(with_reducible refine az hQ ?_;exact aR))
 refine cr 1 0 (aY.ind (ι:=List Pc×Nat×Nat) (fun i=>p.procs.drop i.2.1=i.1∧i.2.2+Pc.nD i.1=Pc.nD p.procs) (fun i=>i.1.length)
  (fun i=> [(1, .ptr 0 0),(3, .int .i64 (i.2.2:Int)),(7, .slice .shared 5 (p.procs.map bn)),(8, .int .i64 (p.procs.length:Int)),(9, .int .i64 (i.2.1:Int))]) (fun i=>⟨[bf p],[]⟩) ?_ (p.procs,0,0) ⟨rfl,za6 _⟩)
 rintro⟨rest,k,c⟩ ⟨g1,g2⟩ IH
 dsimp only at g1 g2
 cases rest with
 |nil=>
  have hF:=drop_nil g1
  simp only[Pc.nD,za4]at g2
  subst g2
  repeat' (first
 |simp only[go_sem,hF,hP,hZ,gA]
 |(with_reducible refine az hQ ?_;exact aR))
 |cons f rest=>
  obtain⟨hP,g3,hF,g4⟩:=drop_cons g1
  have hsf:=Pc.bC (zac hP)
  simp only[Pc.size]at hsf
  have hc:=fun s=>WV (l:=f.body) (by omega) s
  simp only[Pc.nD]at g2
  have w1:IntKind.wrap .i64 ((k:Int)+1)=((k+1:Nat):Int):=by rw[cT]<;>omega
  have w2:IntKind.wrap .i64 ((c:Int)+(Sm.dm f.body:Int))=((c+Sm.dm f.body:Nat):Int):=by rw[cT]<;>omega
  repeat' (first
 |simp only[go_sem,hF,hP,hZ,gA,w1,w2]
 |(with_reducible refine CU (hc _) ?_)
 |(with_reducible refine az hQ ?_;exact aR))
  refine cr 1 0 (IH (rest,k+1,c+Sm.dm f.body) ⟨g3,by dsimp only;omega⟩ (zaa _))
theorem Tw {p:Pg} (h:p.may=false):p.scope=(1,0):=by unfold Pg.scope;rw[h];rfl
theorem HW {p:Pg} (h:p.iJ) (s:St):ay Tryz.prog 14 [.agg (bf p)] s (.agg [.int .i64 p.check.1, .int .i64 p.check.2]) s:=by
 refine ay.pure ?_ (by simp[D.bg,D.ok,fm]) rfl s
 have h1:=fun s=>O5 h.S2 s
 rw[Dr]at h1
 have h2:=fun s=>sX h s
 have h3:=fun s=>Hq h s
 have h4:=fun s=>Ts h s
 have h5:=fun s=>PR h s
 obtain⟨R,hR⟩ : ∃ R,p.check=R:=⟨_,rfl⟩
 rw[hR]
 unfold Pg.check at hR
 unfold S0
 rcases zad p.may with b0|b0
 case inr=>
  have e:((1:Int)==0)=false:=rfl
  rw[Tw b0]at hR
  simp only[e,zab,if_false]at hR
  subst hR
  refine ay.go mb.h rfl fun B Q hB hQ=>?_
  have⟨hF,hP,hZ,gA⟩:=bD
  repeat' (first
 |simp only[go_sem,hF,hP,hZ,gA,b0,zaB]
 |(with_reducible refine CU (h1 _) ?_)
 |(with_reducible refine az hQ ?_;exact aR))
 rcases zad (p.scope.1==0)with b1|b1
 case inr=>
  simp only[b1,zab,if_false]at hR
  subst hR
  refine ay.go mb.h rfl fun B Q hB hQ=>?_
  have⟨hF,hP,hZ,gA⟩:=bD
  repeat' (first
 |simp only[go_sem,hF,hP,hZ,gA,b0,b1,zax]
 |(with_reducible refine CU (h1 _) ?_)
 |(with_reducible refine CU (h2 _) ?_)
 |(with_reducible refine az hQ ?_;exact aR))
 simp only[b1,if_true]at hR
 rcases zad (p.arity.1==0)with b2|b2
 case inr=>
  simp only[b2,zab,if_false]at hR
  subst hR
  refine ay.go mb.h rfl fun B Q hB hQ=>?_
  have⟨hF,hP,hZ,gA⟩:=bD
  repeat' (first
 |simp only[go_sem,hF,hP,hZ,gA,b0,b1,b2,zax]
 |(with_reducible refine CU (h1 _) ?_)
 |(with_reducible refine CU (h2 _) ?_)
 |(with_reducible refine CU (h3 _) ?_)
 |(with_reducible refine az hQ ?_;exact aR))
 simp only[b2,if_true]at hR
 rcases zad (p.jump.1==0)with b3|b3
 case inr=>
  simp only[b3,zab,if_false]at hR
  subst hR
  refine ay.go mb.h rfl fun B Q hB hQ=>?_
  have⟨hF,hP,hZ,gA⟩:=bD
  repeat' (first
 |simp only[go_sem,hF,hP,hZ,gA,b0,b1,b2,b3,zax]
 |(with_reducible refine CU (h1 _) ?_)
 |(with_reducible refine CU (h2 _) ?_)
 |(with_reducible refine CU (h3 _) ?_)
 |(with_reducible refine CU (h4 _) ?_)
 |(with_reducible refine az hQ ?_;exact aR))
 simp only[b3,if_true]at hR
 subst hR
 refine ay.go mb.h rfl fun B Q hB hQ=>?_
 have⟨hF,hP,hZ,gA⟩:=bD
 repeat' (first
 |simp only[go_sem,hF,hP,hZ,gA,b0,b1,b2,b3,zax]
 |(with_reducible refine CU (h1 _) ?_)
 |(with_reducible refine CU (h2 _) ?_)
 |(with_reducible refine CU (h3 _) ?_)
 |(with_reducible refine CU (h4 _) ?_)
 |(with_reducible refine CU (h5 _) ?_)
 |(with_reducible refine az hQ ?_;exact aR))
theorem Cv {p:Pg} (h:p.iJ) (s:St):ay Tryz.prog 16 [.agg (bf p)] s (.bool (p.check.1==0)) s:=by
 refine ay.pure ?_ (by simp[D.bg,D.ok,fm]) rfl s
 have h1:=fun s=>HW h s
 unfold S0
 refine ay.go ET.h rfl fun B Q hB hQ=>?_
 have⟨hF,hP,hZ,gA⟩:=bD
 repeat' (first
 |simp only[go_sem,hF,hP,hZ,gA]
 |(with_reducible refine CU (h1 _) ?_)
 |(with_reducible refine az hQ ?_;exact aR))
mutual
theorem acs (deep bM:Int) (aN:Bool) : ∀ s:Sm,(∀ i∈s.lE deep bM aN,i.deep≤12∧i.s.one=true)→s.xy deep
 |⟨id,kind,labels,name,proc,x,has,args,aV,e⟩,h=>by
  simp only[Sm.lE]at h
  obtain⟨h1,h2⟩:=h _ (zaD ..)
  exact⟨h2,h1,Cw _ _ _ aV fun i m=>h i (zav _ (zaP _ m)),Cw _ _ _ e fun i m=>h i (zav _ (za3 _ m))⟩
theorem Cw (deep bM:Int) (aN:Bool) : ∀ l:List Sm,(∀ i∈Sm.nC deep bM aN l,i.deep≤12∧i.s.one=true)→Sm.uS deep l
 | [],_=>trivial
 |s::l,h=>by
  simp only[Sm.nC]at h
  exact⟨acs _ _ _ s fun i m=>h i (zaP _ m),Cw _ _ _ l fun i m=>h i (za3 _ m)⟩
end
mutual
theorem WW : ∀ s:Sm,s.pre.length=s.fH
 |⟨id,kind,labels,name,proc,x,has,args,aV,e⟩=>by simp only[Sm.pre,Sm.fH,zal,zai,w9 aV,w9 e];omega
theorem w9 : ∀ l:List Sm,(Sm.cP l).length=Sm.dm l
 | []=>rfl
 |s::l=>by simp only[Sm.cP,Sm.dm,zai,WW s,w9 l]
end
theorem ED : ∀ {l:List Pc},Pc.ie l=true→∀ f∈l,isName f.name=true∧f.params.length≤8∧f.vars.length≤16∧cL f.vars=true∧cL f.fin=true∧Pm.dR f.params=true
 |a::l,h,f,m=>by
  simp only[Pc.ie]at h
  split at h
  ·cases h
  split at h
  ·cases h
  rename_i h1 h2
  simp only[zay,zaF,not_or,zaV,decide_eq_true_eq]at h1 h2
  rcases zan.1 m with rfl|m
  ·exact⟨h1.1.1.1.1,by omega,by omega,h1.1.2,h1.2,h2⟩
  ·exact ED h f m
structure Pg.UU (p:Pg):Prop where
 uK:cL p.globals=true
 FB:(p.globals.length:Int)≤16
 procs : ∀ f∈p.procs,f.xy
 UW:p.procs.length≤16
 n4:Pc.n4 p.procs≤200
theorem JU : ∀ l:List Pc,(l.map fun f=>Sm.nC 1 0 false f.body).flatten.length=Pc.n4 l
 | []=>rfl
 |f::l=>by
  have h:(Sm.nC 1 0 false f.body).length=Sm.dm f.body:=by rw[← w9, ← Cj 1 0 false f.body,zat]
  simp only[zaf,zbt,zai,JU l,Pc.n4,h]
theorem EE : ∀ (l:List It) (n:Nat),It.dR n l=true→∀ i∈l,i.deep≤12∧i.s.one=true
 |a::l,n,h,i,m=>by
  simp only[It.dR]at h
  split at h
  ·cases h
  rename_i h1
  simp only[zay,zaF,not_or,zaV,decide_eq_true_eq]at h1
  rcases zan.1 m with rfl|m
  ·exact⟨by omega,h1.2⟩
  ·exact EE l _ h i m
theorem JV {p:Pg} (h:p.may=true):p.UU:=by
 obtain⟨e1,e2⟩:=WD h
 obtain⟨a1,a2⟩:=zt h
 have a3:=EE _ _ a2
 have ht:Pc.n4 p.procs=p.all.length:=by rw[e2,JU]
 unfold Pg.may at h
 split at h
 ·cases h
 split at h
 ·cases h
 rename_i c1 c2
 simp only[zay,zaF,not_or,zaV,decide_eq_true_eq]at c1 c2
 refine⟨c1.2,by omega,fun f hf=>?_,by omega,by omega⟩
 obtain⟨g1,g2,g3,g4,g5,g6⟩:=ED c2 f hf
 refine⟨g1,⟨g6,g2⟩,⟨g4,by omega⟩,g5,Cw 1 0 false f.body fun i m=>a3 i ?_⟩
 rw[e2]
 exact zbo.2 ⟨_,zaL hf,m⟩
theorem Pg.UU.may {p:Pg} (h:p.UU):p.number.may=true:=(MQ h.uK h.FB h.procs h.UW h.n4).1
theorem xa : ∀ l:List Pc,Pc.n4 l=Pc.nD l
 | []=>rfl
 |f::l=>by simp only[Pc.n4,Pc.nD,xa l]
mutual
theorem Tx (b:Bool) (n:Nat) : ∀ s:Sm,((Sm.num b n s).1).size=s.size
 |⟨id,kind,labels,name,proc,x,has,args,aV,e⟩=>by simp only[Sm.num,Sm.size,uu b _ aV,uu b _ e]
theorem uu (b:Bool) (n:Nat) : ∀ l:List Sm,Sm.aM (Sm.cv b n l).1=Sm.aM l
 | []=>rfl
 |s::l=>by simp only[Sm.cv,Sm.aM,Tx b n s,uu b _ l]
end
theorem Cx : ∀ (l:List Pc) (n:Nat),Pc.aM (Pc.cv n l)=Pc.aM l
 | [],_=>rfl
 |f::l,n=>by simp only[Pc.cv,Pc.aM,Pc.size,uu,Cx l]
theorem Pg.HX (p:Pg):p.number.size=p.size:=by simp only[Pg.number,Pg.size,Cx]
mutual
theorem Z5 (b c:Bool) (n:Nat) : ∀ s:Sm,((Sm.num b n s).1).cp c=s.cp c
 |⟨id,kind,labels,name,proc,x,has,args,aV,e⟩=>by simp only[Sm.num,Sm.cp,vW b _ _ aV,vW b _ _ e];rfl
theorem vW (b c:Bool) (n:Nat) : ∀ l:List Sm,Sm.iD c (Sm.cv b n l).1=Sm.iD c l
 | []=>rfl
 |s::l=>by simp only[Sm.cv,Sm.iD,Z5 b c n s,vW b c _ l]
end
def yU (n:Nat):List Pc→List (Pc×Pc)
 | []=> []
 |f::l=>({f with body:=(Sm.cv true n f.body).1},f)::yU (Sm.cv true n f.body).2 l
theorem Qe : ∀ (l:List Pc) (n:Nat),(yU n l).map Prod.fst=Pc.cv n l
 | [],_=>rfl
 |f::l,n=>by simp only[yU,zaf,Pc.cv,Qe l]
theorem Qf : ∀ (l:List Pc) (n:Nat),(yU n l).map Prod.snd=l
 | [],_=>rfl
 |f::l,n=>by simp only[yU,zaf,Qf l]
def aeY (id:Int) (n:Nat):List Pc→List (Pc×Pc)
 | []=> []
 |f::l=>({f with body:=(Sm.cv true n (Sm.yT id f.body)).1},f)::aeY id (Sm.cv true n (Sm.yT id f.body)).2 l
mutual
theorem Ty {v:Sm} : ∀ s:Sm,v∈s.pre→v.labels.length≤s.size
 | ⟨id,kind,labels,name,proc,x,has,args,aV,aN⟩,m=>by
  rw[Sm.sR]at m
  simp only[Sm.size]
  rcases zan.1 m with rfl|m
  ·dsimp only;omega
  ·rcases zaw.1 m with m | m
   ·have:=uv aV m;omega
   ·have:=uv aN m;omega
theorem uv {v:Sm} : ∀ l:List Sm,v∈Sm.cP l→v.labels.length≤Sm.aM l
 |s::l,m=>by
  simp only[Sm.cP]at m
  simp only[Sm.aM]
  rcases zaw.1 m with m|m
  ·have:=Ty s m;omega
  ·have:=uv l m;omega
end
structure Pc.qv (nm:aA) (g f:Pc):Prop where
 name:g.name=f.name
 params:g.params=f.params
 vars:g.vars=f.vars
 fin:g.fin=f.fin
 iD : ∃ e,g.iD=f.iD++e∧(∀ c∈e,c.1.kind=3∧c.1.said = [])∧(du (e.map Prod.fst)).Nodup∧∀ x∈du (e.map Prod.fst),x=nm
structure Pg.qv (nm:aA) (q p:Pg):Prop where
 uK:q.globals=p.globals
 procs : ∃ (l:List (Pc×Pc)) (ex:List Pc),q.procs=l.map Prod.fst++ex∧l.map Prod.snd=p.procs∧(∀ x∈l,Pc.qv nm x.1 x.2)∧
  (∀ f∈ex,f.name=nm∧f.body = []∧dG (p.globals++f.own)=false∧dG f.fin=false)∧(ex.map (·.name)).Nodup
theorem Cy {nm:aA} {p q:Pg} (hp:p.Right) (hq:q.may=true) (h:q.qv nm p) (hn:nm∉p.pn) (hl : ∀ f∈p.procs,nm∉f.labels):q.Right:=by
 obtain⟨hg,l,ex,zZ,jZ,UX,Cz,hl5⟩:=h
 have nd:(p.procs.map (·.name)).Nodup:=by
  have:=hp.tp
  unfold Pg.pn at this
  by_cases hn:(p.procs.map (·.name)).Nodup
  ·exact hn
  ·rw[(kL _).2 hn]at this;cases this
 have epn:q.pn=p.pn++ex.map (·.name):=by
  unfold Pg.pn
  rw[zZ,zah,List.map_map, ← jZ,List.map_map]
  congr 1
  exact zbv fun x m=>(UX x m).name
 have exn : ∀ x∈ex.map (·.name),x=nm:=fun x m=>by
  obtain⟨f,hf,rfl⟩:=zaH.1 m
  exact(Cz f hf).1
 have Z6:(q.procs.map (·.name)).Nodup:=by
  show q.pn.Nodup
  rw[epn,zbm]
  refine⟨nd,hl5,fun a ha b hb e=>?_⟩
  rw[e,exn b hb]at ha
  exact hn ha
 have tpq:dG q.pn=false:=by
  cases e:dG q.pn with
  |false=>rfl
  |true=>exact absurd Z6 ((kL _).1 e)
 have JW : ∀ g∈q.procs,(∃ f∈p.procs,Pc.qv nm g f)∨g∈ex:=fun g m=>by
  rw[zZ]at m
  rcases zaw.1 m with m|m
  ·obtain⟨x,hx,rfl⟩:=zaH.1 m
   exact .inl ⟨x.2,by rw[← jZ];exact zaL hx,UX x hx⟩
  ·exact .inr m
 have ofp : ∀ f∈p.procs,∃ g∈q.procs,Pc.qv nm g f:=fun f m=>by
  rw[← jZ]at m
  obtain⟨x,hx,rfl⟩:=zaH.1 m
  exact⟨x.1,by rw[zZ];exact zaP _ (zaL hx),UX x hx⟩
 have fq : ∀ {n:aA} {g:Pc},q.find n=some g→(∃ f,p.find n=some f∧Pc.qv nm g f)∨g∈ex:=fun {n g} e=>by
  obtain⟨h1,h2⟩:=(pX Z6).1 e
  rcases JW g h1 with ⟨f,hf,gJ⟩|h3
  ·exact .inl ⟨f,(pX nd).2 ⟨hf,by rw[← gJ.name];exact h2⟩,gJ⟩
  ·exact .inr h3
 have fp : ∀ {n:aA} {f:Pc},p.find n=some f→∃ g,q.find n=some g∧Pc.qv nm g f:=fun {n f} e=>by
  obtain⟨h1,h2⟩:=(pX nd).1 e
  obtain⟨g,oh,gJ⟩:=ofp f h1
  exact⟨g,(pX Z6).2 ⟨oh,by rw[gJ.name];exact h2⟩,gJ⟩
 -- a larger one's statements
 have st : ∀ {g f:Pc},Pc.qv nm g f→∀ v∈Sm.cP g.body,(∃ u∈Sm.cP f.body,u.core=v.core)∨(v.kind=3∧v.said = []):=fun {g f} gJ v m=>by
  have h1:v.core∈g.iD.map Prod.fst:=by unfold Pc.iD;rw[su];exact zaL m
  obtain⟨e,he,h2,_,_⟩:=gJ.iD
  rw[he,zah]at h1
  rcases zaw.1 h1 with h1|h1
  ·unfold Pc.iD at h1
   rw[su]at h1
   obtain⟨u,hu,e2⟩:=zaH.1 h1
   exact .inl ⟨u,hu,e2⟩
  ·obtain⟨c,hc,e2⟩:=zaH.1 h1
   obtain⟨h3,h4⟩:=h2 c hc
   rw[e2]at h3 h4
   exact .inr ⟨h3,by rw[← um];exact h4⟩
 have has : ∀ x,dg p.pn x=true→dg q.pn x=true:=fun x h1=>by
  rw[eD]at h1 ⊢
  rw[epn];exact zaP _ h1
 have kind : ∀ {g f:Pc},Pc.qv nm g f→∀ n,g.jA q n=f.jA p n:=fun {g f} gJ n=>by unfold Pc.jA;rw[gJ.vars,gJ.params,hg]
 have known : ∀ g∈q.procs,∀ v∈Sm.cP g.body,v.known q g q.pn=true:=fun g m v mv=>by
  rcases JW g m with ⟨f,hf,gJ⟩|m
  ·rcases st gJ v mv with ⟨u,hu,e⟩ | ⟨h1,h2⟩
   ·have:=hp.known f hf u hu
    rw[← Cr,e,Cr]at this
    unfold Sm.known at this ⊢
    simp only[zam,zay]at this ⊢
    refine⟨by simpa only[kind gJ]using this.1,this.2.imp id fun h3=>⟨h3.1,has _ h3.2⟩⟩
   ·unfold Sm.known
    rw[h1,h2];rfl
  ·rw[(Cz g m).2.1]at mv;cases mv
 have own : ∀ g∈q.procs,dG (q.globals++g.own)=false:=fun g m=>by
  rw[hg]
  rcases JW g m with ⟨f,hf,gJ⟩|m
  ·have:=hp.own f hf
   unfold Pc.own Pc.lB at this ⊢
   rw[gJ.params,gJ.vars];exact this
  ·exact(Cz g m).2.2.1
 have main:q.nB=false:=by
  have h1:=hp.main
  unfold Pg.nB at h1 ⊢
  cases e:p.find oB with
  |none=>rw[e]at h1;cases h1
  |some f=>
   rw[e]at h1
   obtain⟨g,oh,gJ⟩:=fp e
   rw[oh]
   simpa only[gJ.params]using h1
 have tg:dG q.globals=false:=by rw[hg];exact hp.tg
 have Z7:(p.scope.1==0)=true:=by rw[hp.scope];rfl
 -- who is called, what is touched
 have calls : ∀ x y,y∈mh q x→y∈mh p x:=fun x y m=>by
  unfold mh at m ⊢
  cases e:q.find x with
  |none=>rw[e]at m;cases m
  | some g=>
   rw[e]at m
   obtain⟨v,hv,h1,h2⟩:=yM.1 m
   rcases fq e with ⟨f,hf,gJ⟩|h3
   ·rw [hf]
    rcases st gJ v hv with ⟨u,hu,e2⟩|⟨h3,_⟩
    ·refine yM.2 ⟨u,hu, ?_, ?_⟩
     ·rw[← o9,e2,o9];exact h1
     ·rw[show u.proc=u.core.proc from rfl,e2];exact h2
    ·omega
   ·rw[(Cz g h3).2.1]at hv;cases hv
 have work : ∀ {n:aA} {f:Pc},p.find n=some f→∀ x∈q.work n,x∈p.work n:=fun {n f} hf x m=>by
  unfold Pg.work at m
  refine Ci (p:=q) (S:=fun x=>x∈p.work n) (fun x hx y hy=>?_) _ _ _ (fun x hx=>?_) x m
  ·exact Af Z7 _ _ _ (wP hf) (by omega) (fun j x hj=>absurd hj (zaG _)) _ hx _ (calls x y hy)
  ·rw [zbd]at hx
   subst hx
   exact Hx p _ _ _ (by simp)
 have body : ∀ n x,x∈oE (lD q n)→x∈oE (lD p n):=fun n x m=>by
  unfold lD at m ⊢
  cases e:q.find n with
  |none=>rw[e]at m;cases m
  | some g=>
   rw[e]at m
   obtain⟨v,hv,h1⟩:=yS.1 m
   rcases fq e with ⟨f,hf,gJ⟩|h3
   ·rw [hf]
    rcases st gJ v hv with ⟨u,hu,e2⟩|⟨_,h3⟩
    ·exact yS.2 ⟨u,hu,by rw[← um,e2,um];exact h1⟩
    ·rw[h3]at h1;cases h1
   ·have hv':v∈Sm.cP g.body:=hv
    rw[(Cz g h3).2.1]at hv';cases hv'
 have FB : ∀ n f,p.find n=some f→∀ x,dg (q.kf n) x=true→dg (p.kf n) x=true:=fun n f ef0 x m=>by
  rw[eD]at m ⊢
  cases e:q.qt n with
  |none=>unfold Pg.kf at m;rw[e]at m;cases m
  |some g=>
   have ef:p.qt n=some f:=by unfold Pg.qt;rw[if_pos Z7];exact ef0
   rw[Eu e]at m
   rw[Eu ef]
   obtain⟨⟨k,hk,hx⟩,Cg⟩:=m
   exact⟨⟨k,work ef0 k hk,body k x hx⟩,by rw[← hg];exact Cg⟩
 have pre : ∀ v∈q.pre,(∃ u∈p.pre,u.core=v.core)∨v.kind=3:=fun v m=>by
  simp only[Pg.pre,zbo,zaH]at m
  obtain⟨_,⟨g,oh,rfl⟩,mv⟩:=m
  rcases JW g oh with ⟨f,hf,gJ⟩|h3
  ·rcases st gJ v mv with ⟨u,hu,e⟩ | ⟨h4,_⟩
   ·exact .inl ⟨u,by simp only[Pg.pre,zbo,zaH];exact⟨_,⟨f,hf,rfl⟩,hu⟩,e⟩
   ·exact .inr h4
  ·rw[(Cz g h3).2.1]at mv;cases mv
 have jl : ∀ {g f:Pc},Pc.qv nm g f→∀ x,x∈f.labels→x∈g.labels:=fun {g f} gJ x m=>by
  obtain⟨e,he,_⟩:=gJ.iD
  rw[w8]at m ⊢
  rw[he,gJ.fin,zah]
  rcases zaw.1 m with m|m
  ·exact zaP _ ((MR (List.sublist_append_left _ _)).subset m)
  ·exact za3 _ m
 refine⟨hq,tg,tpq,main,own,known,fun g m=>?_,fun g m=>?_,fun v m hk=>?_,fun v m hk=>?_⟩
 ·rcases JW g m with ⟨f,hf,gJ⟩ | m
  ·have h1:=hp.jl f hf
   have h2:f.labels.Nodup:=by
    by_cases hn:f.labels.Nodup
    ·exact hn
    ·rw[(kL _).2 hn]at h1;cases h1
   have h3:=hl f hf
   obtain⟨e,he,_,h4,h5⟩:=gJ.iD
   have app : ∀ (a b:List Sm),du (a++b)=du a++du b:=fun a b=>by
    induction a with
    |nil=>rfl
    |cons v a ih=>simp only[zaJ,du,ih,zaC]
   have h6:g.labels.Nodup:=by
    rw[w8,he,gJ.fin,zah,app]
    rw[w8]at h2 h3
    rw[zbm]at h2
    obtain⟨k1,k2,k3⟩:=h2
    simp only[zaw,not_or]at h3
    rw[zbm]
    refine⟨?_,k2,fun a ha b hb e=>?_⟩
    ·rw [zbm]
     refine⟨k1,h4,fun a ha b hb e=>?_⟩
     rw[e,h5 b hb]at ha;exact h3.1 ha
    ·rcases zaw.1 ha with ha | ha
     ·exact k3 a ha b hb e
     ·rw[← e,h5 a ha]at hb;exact h3.2 hb
   cases e:dG g.labels with
   |false=>rfl
   |true=>exact absurd h6 ((kL _).1 e)
  ·have:g.labels=g.fin:=by unfold Pc.labels;rw [(Cz g m).2.1];rfl
   rw[this];exact(Cz g m).2.2.2
 ·rcases JW g m with ⟨f,hf,gJ⟩ | m'
  ·rw [JQ (JP hq m)]
   have h1:=(JQ (jl:=f.labels) (JP hp.may hf)).1 (hp.leads f hf)
   obtain⟨e,he,h2,_,_⟩:=gJ.iD
   intro c hc
   rw[he]at hc
   rcases zaw.1 hc with hc|hc
   ·have h3:=h1 c hc
    unfold jd at h3 ⊢
    split
    ·rename_i hk;rw[if_pos hk]at h3;exact h3
    ·rename_i hk
     rw[if_neg hk]at h3
     split
     ·rename_i bH
      rw[if_pos bH]at h3
      rw[eD]at h3 ⊢
      exact jl gJ _ h3
     ·rfl
   ·unfold jd
    rw[(h2 c hc).1];rfl
  ·intro c hc
   have:g.nU = []:=by unfold Pc.nU;rw[(Cz g m').2.1];rfl
   rw[this]at hc;cases hc
 ·rcases pre v m with ⟨u,hu,e⟩ | h3
  ·have qQ:(u.kind==4)=true:=by rw [← o9,e,o9];exact hk
   have:=hp.fits u hu qQ
   rw[← uq,e,uq]at this
   unfold Sm.kN at this ⊢
   rw[hk]at this ⊢
   simp only[zbz]at this ⊢
   cases e2:p.find v.proc with
   |none=>rw[e2]at this;cases this
   |some f=>
    rw[e2]at this
    obtain⟨g,oh,gJ⟩:=fp e2
    rw[oh]
    simpa only[gJ.params]using this
  ·rw[h3]at hk;cases hk
 ·rcases pre v m with ⟨u,hu,e⟩ | h3
  ·have qQ:(u.kind==4)=true:=by rw [← o9,e,o9];exact hk
   have:=hp.single u hu qQ
   have h2:=hp.fits u hu qQ
   rw[← Ag,e,Ag]at this
   rw[← uq,e,uq]at h2
   unfold Sm.nV at this ⊢
   cases e2:p.find v.proc with
   |none=>unfold Sm.kN at h2;rw[e2]at h2;simp at h2
   |some f=>exact uT (FB v.proc f e2) this
  ·rw[h3]at hk;cases hk
def uw (s:aA):List It→Bool
 | []=>false
 |x::l=>if dg x.s.labels s ||(x.s.name==s ||(x.s.proc==s ||dg x.s.said s))then true else uw s l
def xb (s:aA):List Pc→Bool
 | []=>false
 |f::l=>if f.name==s ||(dg f.lB s ||(dg f.vars s ||dg f.fin s))then true else if uw s f.flat then true else xb s l
def Pg.used (p:Pg) (s:aA):Bool:=if dg p.globals s then true else xb s p.procs
theorem HY {s:aA} : ∀ {l:List It},uw s l=false→∀ x∈l,s∉x.s.labels
 | x::l,h,y,m=>by
  simp only[uw]at h
  split at h
  ·cases h
  ·rename_i h1
   simp only[zay,not_or]at h1
   rcases zan.1 m with rfl|m
   ·intro h2;exact h1.1 ((eD _ _).2 h2)
   ·exact HY h y m
theorem HZ {s:aA} : ∀ {l:List Pc},xb s l=false→∀ f∈l,f.name≠s∧s∉f.fin∧∀ x∈f.flat,s∉x.s.labels
 | f::l,h,g,m=>by
  simp only[xb]at h
  split at h
  ·cases h
  ·rename_i h1
   split at h
   ·cases h
   ·rename_i h2
    simp only[zay,not_or]at h1
    rcases zan.1 m with rfl|m
    ·exact⟨fun e=>h1.1 (by simpa using e),fun e=>h1.2.2.2 ((eD _ _).2 e),HY (by simpa using h2)⟩
    ·exact HZ h g m
theorem zB {p:Pg} {s:aA} (hm:p.may=true) (h:p.used s=false):s∉p.globals∧s∉p.pn∧∀ f∈p.procs,s∉f.labels:=by
 unfold Pg.used at h
 split at h
 ·cases h
 rename_i h1
 have h2:=HZ h
 refine⟨fun e=>h1 ((eD _ _).2 e),fun e=>?_,fun f hf e=>?_⟩
 ·obtain⟨f,hf,e⟩:=zaH.1 e
  exact(h2 f hf).1 e
 ·unfold Pc.labels at e
  rcases zaw.1 e with e|e
  ·obtain⟨v,hv,h3⟩:=Cs.1 e
   rw[← (AR hm).1 f hf]at hv
   obtain⟨x,hx,rfl⟩:=zaH.1 hv
   exact(h2 f hf).2.2 x hx h3
  ·exact(h2 f hf).2.1 e
def k9 (nm:aA):Pc:=⟨nm,[⟨97::nm.take 1,true⟩],[98::nm.take 1],[],[nm]⟩
def Pg.grown (p:Pg) (nm:aA):Pg:= {p with procs:=p.procs++ [k9 nm]}
theorem H0 {f:Pc} (hf:f.flat = []) : ∀ (l:List Pc) (out:List It),allM out (l++ [f])=allM out l
 | [],out=>by simp only[zaR,allM,hf,zaA];split<;>rfl
 |g::l,out=>by simp only[zaJ,allM,H0 hf l]
theorem EF {f:Pc} (hf:Pc.ie [f] = true) : ∀ (l:List Pc),Pc.ie l=true→Pc.ie (l++ [f])=true
 | [],_=>hf
 |g::l,h=>by
  simp only[Pc.ie,zaJ]at h ⊢
  split at h
  ·cases h
  rename_i h1
  rw[if_neg h1]
  split at h
  ·cases h
  rename_i h2
  rw[if_neg h2]
  exact EF hf l h
theorem I6 {p:Pg} (hp:p.Right) {nm:aA} (hlen:(p.procs.length:Int)<16) (h0:isName nm=true) (h1:p.used nm=false) (ha:isName (97::nm.take 1)=true) (hb:isName (98::nm.take 1)=true) (vf:p.used (97::nm.take 1)=false) (l8:p.used (98::nm.take 1)=false) :
 (p.grown nm).Right:=by
 have hm:=hp.may
 have acu:(k9 nm).flat = []:=rfl
 have Hc:Pc.ie [k9 nm] = true:=by
  simp only[Pc.ie,k9,h0,cL,Pm.dR,ha,hb]
  rfl
 have rD:(p.grown nm).all=p.all:=H0 acu p.procs []
 have hq:(p.grown nm).may=true:=by
  have:=hm
  unfold Pg.may at this ⊢
  rw[rD]
  split at this
  ·cases this
  split at this
  ·cases this
  split at this
  ·cases this
  rename_i c1 c2 c3
  simp only[zay,not_or,decide_eq_true_eq]at c1
  have e1:(decide (((p.grown nm).globals.length:Int) > 16) ||decide (((p.grown nm).procs.length:Int) > 16) || !(cL (p.grown nm).globals))=false:=by
   have g1:=c1.1.1
   have a1 : ¬ ((p.grown nm).globals.length:Int) > 16:=by simpa[Pg.grown]using g1
   have a2 : ¬ ((p.grown nm).procs.length:Int) > 16:=by
    have:(p.grown nm).procs.length=p.procs.length+1:=by simp[Pg.grown]
    rw[this];omega
   have a3:cL p.globals=true:=by simpa using c1.2
   rw[decide_eq_false a1,decide_eq_false a2,show cL (p.grown nm).globals=true from a3];rfl
  have e2:Pc.ie (p.grown nm).procs=true:=EF Hc _ (by simpa using c2)
  rw[e1,e2,if_neg (by simp),if_neg (by simp),if_neg c3]
  exact this
 obtain⟨_,hn,hl⟩:=zB hm h1
 refine Cy hp hq ⟨rfl,p.procs.map fun f=>(f,f),[k9 nm], ?_, ?_,fun x m=>?_,fun f m=>?_,by simp⟩ hn hl
 ·rw [List.map_map]
  show p.procs++ [k9 nm] = _
  congr 1
  exact(List.map_id _).symm
 ·rw[List.map_map];exact List.map_id _
 ·obtain⟨f,hf,rfl⟩:=zaH.1 m
  exact⟨rfl,rfl,rfl,rfl,[],by simp,by simp,by simp[du],by simp[du]⟩
 ·rw [zbd]at m
  subst m
  refine⟨rfl,rfl, ?_, ?_⟩
  ·cases e:dG (p.globals++(k9 nm).own)with
   |false=>rfl
   | true=>
    refine absurd ?_ ((kL _).1 e)
    have hg:p.globals.Nodup:=by
     have:=hp.tg
     by_cases hn:p.globals.Nodup
     ·exact hn
     ·rw[(kL _).2 hn]at this;cases this
    rw[zbm]
    refine⟨hg,by simp[k9,Pc.own,Pc.lB],fun a h1 b h2 e=>?_⟩
    subst e
    have h3:a=97::nm.take 1∨a=98::nm.take 1:=by simpa[k9,Pc.own,Pc.lB]using h2
    rcases h3 with rfl|rfl
    ·exact(zB hm vf).1 h1
    ·exact(zB hm l8).1 h1
  ·cases e:dG (k9 nm).fin with
   |false=>rfl
   |true=>exact absurd (by simp[k9]) ((kL _).1 e)
def jt (nm:aA):Sm:=⟨0,3,[nm],[],[],⟨1,3,[],[]⟩,false,[],[],[]⟩
def Pc.grow (nm:aA) (f:Pc):Pc:= {f with body:=f.body++ [jt nm]}
def iO (nm:aA):Nat→List Pc→List Pc
 |_,[]=> []
 | 0,f::l=>f.grow nm::l
 |k+1,f::l=>f::iO nm k l
def Pg.grow (p:Pg) (nm:aA) (k:Nat):Pg:= {p with procs:=iO nm k p.procs}
theorem EG (nm:aA) : ∀ (k:Nat) (l:List Pc),(iO nm k l).length=l.length
 |_,[]=>by cases ‹Nat› <;>rfl
 | 0,f::l=>rfl
 |k+1,f::l=>by simp only[iO,zal,EG nm k l]
theorem JX (b:Bool) (s:Sm) : ∀ l:List Sm,Sm.iD b (l++ [s])=Sm.iD b l++s.cp b
 | []=>by simp[Sm.iD]
 |t::l=>by simp only[zaJ,Sm.iD,JX b s l,zaC]
theorem JY (s:Sm) : ∀ l:List Sm,Sm.dm (l++ [s])=Sm.dm l+s.fH
 | []=>by simp[Sm.dm]
 |t::l=>by simp only[zaJ,Sm.dm,JY s l];omega
theorem EH {nm:aA} : ∀ {k:Nat} {l:List Pc} {g:Pc},g∈iO nm k l→g∈l∨∃ f∈l,g=f.grow nm
 |k,[],g,m=>by cases k<;>cases m
 | 0,f::l,g,m=>by
  simp only[iO]at m
  rcases zan.1 m with rfl|m
  ·exact .inr ⟨f,zaD ..,rfl⟩
  ·exact .inl (zav _ m)
 | k+1,f::l,g,m=>by
  simp only[iO]at m
  rcases zan.1 m with rfl|m
  ·exact .inl (zaD ..)
  ·rcases EH m with h | ⟨e,he,h⟩
   ·exact .inl (zav _ h)
   ·exact .inr ⟨e,zav _ he,h⟩
theorem EI (nm:aA) : ∀ (k:Nat) (l:List Pc),Pc.n4 (iO nm k l)≤Pc.n4 l+1
 |k,[]=>by cases k<;>simp[iO,Pc.n4]
 | 0,f::l=>by
  simp only[iO,Pc.n4,Pc.grow,JY]
  have:(jt nm).fH=1:=rfl
  omega
 |k+1,f::l=>by
  simp only[iO,Pc.n4]
  have:=EI nm k l
  omega
def p6 (nm:aA):Nat→Nat→List Pc→List (Pc×Pc)
 |_,_,[]=> []
 | 0,n,f::l=>({f with body:=(Sm.cv true n (f.body++ [jt nm])).1},f)::yU (Sm.cv true n (f.body++ [jt nm])).2 l
 |k+1,n,f::l=>({f with body:=(Sm.cv true n f.body).1},f)::p6 nm k (Sm.cv true n f.body).2 l
theorem JZ (nm:aA) : ∀ (k n:Nat) (l:List Pc),(p6 nm k n l).map Prod.fst=Pc.cv n (iO nm k l)
 |k,n,[]=>by cases k<;>rfl
 | 0,n,f::l=>by simp only[p6,zaf,iO,Pc.cv,Qe l,Pc.grow]
 |k+1,n,f::l=>by simp only[p6,zaf,iO,Pc.cv,JZ nm k _ l]
theorem J0 (nm:aA) : ∀ (k n:Nat) (l:List Pc),(p6 nm k n l).map Prod.snd=l
 |k,n,[]=>by cases k<;>rfl
 | 0,n,f::l=>by simp only[p6,zaf,Qf l]
 |k+1,n,f::l=>by simp only[p6,zaf,J0 nm k _ l]
theorem H2 (nm:aA) (n:Nat) (f:Pc):Pc.qv nm {f with body:=(Sm.cv true n f.body).1} f:=
 ⟨rfl,rfl,rfl,rfl,[],by rw[zaA];exact vW true false n f.body,by simp,by simp[du],by simp[du]⟩
theorem EJ (nm:aA) : ∀ (l:List Pc) (n:Nat),∀ x∈yU n l,Pc.qv nm x.1 x.2
 |f::l,n,x,m=>by
  simp only[yU]at m
  rcases zan.1 m with rfl|m
  ·exact H2 nm n f
  ·exact EJ nm l _ x m
theorem CA (nm:aA) : ∀ (k n:Nat) (l:List Pc),∀ x∈p6 nm k n l,Pc.qv nm x.1 x.2
 |k,n,[],x,m=>by cases k<;>cases m
 | 0,n,f::l,x,m=>by
  simp only[p6]at m
  rcases zan.1 m with rfl|m
  ·refine⟨rfl,rfl,rfl,rfl,(jt nm).cp false, ?_,fun c hc=> ?_, ?_, ?_⟩
   ·show Sm.iD false _=Sm.iD false _++_
    rw[vW,JX]
   ·simp only [Sm.cp,jt,Sm.iD,zaA,zbd]at hc
    subst hc
    exact⟨rfl,rfl⟩
   ·simp[Sm.cp,jt,Sm.iD,du,Sm.core]
   ·simp[Sm.cp,jt,Sm.iD,du,Sm.core]
  ·exact EJ nm l _ x m
 |k+1,n,f::l,x,m=>by
  simp only[p6]at m
  rcases zan.1 m with rfl|m
  ·exact H2 nm n f
  ·exact CA nm k _ l x m
theorem Qg {nm:aA} (h:isName nm=true):(jt nm).one=true:=by
 simp only[Sm.one,jt,cL,h,Sm.uJ,Sm.hasName,Sm.oj,Ar.dR]
 rfl
theorem MV {p:Pg} (hp:p.Right) {nm:aA} (k:Nat) (h0:isName nm=true) (h1:p.used nm=false) (hc:Pc.nD p.procs<200):(p.grow nm k).number.Right:=by
 have ho:=JV hp.may
 obtain⟨_,hn,hl⟩:=zB hp.may h1
 have aeZ:(p.grow nm k).UU:=⟨ho.uK,ho.FB,fun f m=>?_,by show(iO nm k p.procs).length≤16;rw[EG];exact ho.UW,by
  show Pc.n4 (iO nm k p.procs)≤200
  have:=EI nm k p.procs
  rw[xa]at this
  rw[xa]at this ⊢
  omega⟩
 ·refine Cy hp aeZ.may ⟨rfl,p6 nm k 0 p.procs,[], ?_,J0 nm k 0 _,CA nm k 0 _,by simp,by simp⟩ hn hl
  rw[zaA,JZ];rfl
 ·rcases EH m with h | ⟨g,hg,rfl⟩
  ·exact ho.procs f h
  ·obtain⟨a1,a2,a3,a4,a5⟩:=ho.procs g hg
   refine⟨a1,a2,a3,a4,Sm.HR ?_ a5⟩
   rw[Sm.P4]
   exact⟨Qg h0,by decide,trivial,trivial⟩
theorem H3 {p:Pg} (h:p.iJ) (hb:p.may=true) (nm:aA) (s:St):ay Tryz.prog 30 [.agg (bf p), .str nm] s (.bool (p.used nm)) s:=by
 refine ay.pure ?_ (by simp[D.bg,D.ok,fm]) rfl s
 obtain⟨oS,rl,vK⟩:=h.procs
 obtain⟨R,hR⟩ : ∃ R,p.used nm=R:=⟨_,rfl⟩
 rw[hR]
 unfold Pg.used at hR
 have hg:=fun s=>Ds (l:=p.globals) (by omega) nm .shared s
 unfold S0
 rcases zad (dg p.globals nm)with b1|b1
 ·rw [if_pos b1]at hR
  subst hR
  refine ay.go xn.h rfl fun B Q hB hQ=>?_
  have⟨hF,hP,hZ,gA⟩:=bD
  repeat' (first
 |simp only[go_sem,hF,hP,hZ,gA,b1]
 |(with_reducible refine CU (hg _) ?_)
 |(with_reducible first|refine bj fun hc=>?_|refine bk fun hc=>?_|refine bl (fun hc=>?_) fun hc=>?_)<;>(try simp only[hc,bs,↓reduceIte]at h)<;>try simp only[hc]
 |((with_reducible refine az hQ ?_);(try cases h);simp only[bt,bx,bY,bZ,go_sem,hF,hP,hZ,gA,b1];try exact cB)
 |(cases h;done))
 rw[if_neg (by simp[b1])]at hR
 refine ay.go xn.h rfl fun B Q hB hQ=>?_
 have⟨hF,hP,hZ,gA⟩:=bD
 repeat' (first
 |simp only[go_sem,hF,hP,hZ,gA,b1]
 |(with_reducible refine CU (hg _) ?_)
 |(with_reducible first|refine bj fun hc=>?_|refine bk fun hc=>?_|refine bl (fun hc=>?_) fun hc=>?_)<;>(try simp only[hc,bs,↓reduceIte]at h)<;>try simp only[hc]
 |((with_reducible refine az hQ ?_);(try cases h);simp only[bt,bx,bY,bZ,go_sem,hF,hP,hZ,gA,b1];try exact cB)
 |(cases h;done))
 refine cr 1 0 (aY.ind (ι:=List Pc×Nat) (fun i=>p.procs.drop i.2=i.1∧xb nm i.1=R) (fun i=>i.1.length)
  (fun i=> [(1, .str nm),(2, .ptr 0 0),(14, .slice .shared 5 (p.procs.map bn)),(15, .int .i64 (p.procs.length:Int)),(16, .int .i64 (i.2:Int))]) (fun i=>⟨[bf p],[]⟩) ?_ (p.procs,0) ⟨rfl,hR⟩)
 clear hR
 rintro⟨rest,k⟩ ⟨h1,hR⟩ IH
 dsimp only at h1 hR
 cases rest with
 |nil=>
  have hF:=drop_nil h1
  simp only[xb]at hR
  subst hR
  repeat' (first
 |simp only[go_sem,hF,hP,hZ,gA]
 |(with_reducible first|refine bj fun hc=>?_|refine bk fun hc=>?_|refine bl (fun hc=>?_) fun hc=>?_)<;>(try simp only[hc,bs,↓reduceIte]at h)<;>try simp only[hc]
 |((with_reducible refine az hQ ?_);exact dv)
 |(cases h;done))
 | cons f rest=>
  obtain⟨hP,g2,hF,g4⟩:=drop_cons h1
  have bH:k<4611686018427387904:=by omega
  have rZ:=zac hP
  have cV:=Pc.bC rZ
  simp only[Pc.size]at cV
  have hpn:f.lB.length=f.params.length:=zat ..
  have H4:=fun s=>S1 (f:=f) (by omega) s
  have CC:=fun s=>Ds (l:=f.lB) (by omega) nm .shared s
  have rP:=fun s=>Ds (l:=f.vars) (by omega) nm .shared s
  have Qh:=fun s=>Ds (l:=f.fin) (by omega) nm .shared s
  have ib:=fun s=>YM (f:=f) (by omega) s
  have aiv:=Pc.SA f
  have qq:=(AR hb).1 f rZ
  have acv:=h.said rZ
  have acw : ∀ x∈f.flat,x.s.labels.length≤900000:=fun x m=>by
   have:x.s∈Sm.cP f.body:=by rw[← qq];exact zaL m
   have:=uv f.body this
   omega
  have Jh : ∀ x∈f.flat,x.s.mg:=fun x m=>acv _ (by rw[← qq];exact zaL m)
  simp only[xb]at hR
  generalize hFL:f.flat=FL at *
  rcases zad (f.name==nm)with d1|d1
  ·simp only [d1,za8,if_true]at hR
   subst hR
   repeat' (first
 |simp only[go_sem,hF,hP,hZ,gA,d1]
 |(with_reducible refine CU (H4 _) ?_)
 |(with_reducible refine CU (CC _) ?_)
 |(with_reducible refine CU (rP _) ?_)
 |(with_reducible refine CU (Qh _) ?_)
 |(with_reducible refine CU (ib _) ?_)
 |(with_reducible first|refine bj fun hc=>?_|refine bk fun hc=>?_|refine bl (fun hc=>?_) fun hc=>?_)<;>(try simp only[hc,bs,↓reduceIte]at h)<;>try simp only[hc]
 |((with_reducible refine az hQ ?_);(try cases h);simp only[bt,bx,bY,bZ,go_sem,hF,hP,hZ,gA,d1];try exact cB)
 | (cases h;done))
  rcases zad (dg f.lB nm)with d2|d2
  ·simp only [d1,d2,za1,za8,if_true]at hR
   subst hR
   repeat' (first
 |simp only[go_sem,hF,hP,hZ,gA,d1,d2]
 |(with_reducible refine CU (H4 _) ?_)
 |(with_reducible refine CU (CC _) ?_)
 |(with_reducible refine CU (rP _) ?_)
 |(with_reducible refine CU (Qh _) ?_)
 |(with_reducible refine CU (ib _) ?_)
 |(with_reducible first|refine bj fun hc=>?_|refine bk fun hc=>?_|refine bl (fun hc=>?_) fun hc=>?_)<;>(try simp only[hc,bs,↓reduceIte]at h)<;>try simp only[hc]
 |((with_reducible refine az hQ ?_);(try cases h);simp only[bt,bx,bY,bZ,go_sem,hF,hP,hZ,gA,d1,d2];try exact cB)
 | (cases h;done))
  rcases zad (dg f.vars nm)with d3|d3
  ·simp only [d1,d2,d3,za1,za8,if_true]at hR
   subst hR
   repeat' (first
 |simp only[go_sem,hF,hP,hZ,gA,d1,d2,d3]
 |(with_reducible refine CU (H4 _) ?_)
 |(with_reducible refine CU (CC _) ?_)
 |(with_reducible refine CU (rP _) ?_)
 |(with_reducible refine CU (Qh _) ?_)
 |(with_reducible refine CU (ib _) ?_)
 |(with_reducible first|refine bj fun hc=>?_|refine bk fun hc=>?_|refine bl (fun hc=>?_) fun hc=>?_)<;>(try simp only[hc,bs,↓reduceIte]at h)<;>try simp only[hc]
 |((with_reducible refine az hQ ?_);(try cases h);simp only[bt,bx,bY,bZ,go_sem,hF,hP,hZ,gA,d1,d2,d3];try exact cB)
 | (cases h;done))
  rcases zad (dg f.fin nm)with d4|d4
  ·simp only [d1,d2,d3,d4,za1,if_true]at hR
   subst hR
   repeat' (first
 |simp only[go_sem,hF,hP,hZ,gA,d1,d2,d3,d4]
 |(with_reducible refine CU (H4 _) ?_)
 |(with_reducible refine CU (CC _) ?_)
 |(with_reducible refine CU (rP _) ?_)
 |(with_reducible refine CU (Qh _) ?_)
 |(with_reducible refine CU (ib _) ?_)
 |(with_reducible first|refine bj fun hc=>?_|refine bk fun hc=>?_|refine bl (fun hc=>?_) fun hc=>?_)<;>(try simp only[hc,bs,↓reduceIte]at h)<;>try simp only[hc]
 |((with_reducible refine az hQ ?_);(try cases h);simp only[bt,bx,bY,bZ,go_sem,hF,hP,hZ,gA,d1,d2,d3,d4];try exact cB)
 |(cases h;done))
  simp only[d1,d2,d3,d4,za1,zab,if_false]at hR
  obtain⟨U,hU⟩ : ∃ U,uw nm FL=U:=⟨_,rfl⟩
  rw[hU]at hR
  repeat' (first
 |simp only[go_sem,hF,hP,hZ,gA,d1,d2,d3,d4]
 |(with_reducible refine CU (H4 _) ?_)
 |(with_reducible refine CU (CC _) ?_)
 |(with_reducible refine CU (rP _) ?_)
 |(with_reducible refine CU (Qh _) ?_)
 |(with_reducible refine CU (ib _) ?_)
 |(with_reducible first|refine bj fun hc=>?_|refine bk fun hc=>?_|refine bl (fun hc=>?_) fun hc=>?_)<;>(try simp only[hc,bs,↓reduceIte]at h)<;>try simp only[hc]
 |((with_reducible refine az hQ ?_);(try cases h);simp only[bt,bx,bY,bZ,go_sem,hF,hP,hZ,gA,d1,d2,d3,d4];try exact cB)
 | (cases h;done))
  refine cr 1 0 (aY.ind (ι:=List It×Nat) (fun i=>FL.drop i.2=i.1∧uw nm i.1=U) (fun i=>i.1.length)
   (fun i=> [(1, .str nm),(2, .ptr 0 0),(14, .slice .shared 5 (p.procs.map bn)),(15, .int .i64 (p.procs.length:Int)),(16, .int .i64 (k:Int)),
    (43, .slice .shared 16 (FL.map fQ)),(44, .int .i64 (FL.length:Int)),(45, .int .i64 (i.2:Int))]) (fun i=>⟨[bf p],[]⟩) ?_ (FL,0) ⟨rfl,hU⟩)
  clear hU
  rintro⟨oD,k2⟩ ⟨j1,j2⟩ yx
  dsimp only at j1 j2
  cases oD with
  |nil=>
   have AV:=drop_nil j1
   simp only[uw]at j2
   subst j2
   simp only[zab,if_false]at hR
   repeat' (first
 |simp only[go_sem,hF,hP,hZ,gA,AV]
 |(with_reducible first|refine bj fun hc=>?_|refine bk fun hc=>?_|refine bl (fun hc=>?_) fun hc=>?_)<;>(try simp only[hc,bs,↓reduceIte]at h)<;>try simp only[hc]
 |((with_reducible refine az hQ ?_);(try cases h);simp only[bt,bx,bY,bZ,go_sem,hF,hP,hZ,gA,AV];try exact cB)
 | (cases h;done))
   refine cD 1 0 ?_ ?_ (IH (rest,k+1) ⟨g2,hR⟩ (zaa _))
   ·(simp only[go_sem,hF,hP,hZ,gA,aC bH];try exact bd)
   ·(simp only[go_sem,hF,hP,hZ,gA,aC bH];try exact bd)
  | cons x oD=>
   obtain⟨iC,j6,mJ,j7⟩:=drop_cons j1
   have oZ:k2<4611686018427387904:=by omega
   have hxm:=zac iC
   have zZ:=acw x hxm
   have jZ:=Jh x hxm
   have UX:=AQ x.s jZ
   have c1:=fun s=>Ds (l:=x.s.labels) (by omega) nm .shared s
   have c2:=fun s=>IW jZ s
   have c3:=fun s=>Ds (l:=x.s.said) (by omega) nm .shared s
   simp only[uw]at j2
   rcases zad (dg x.s.labels nm)with e1|e1
   ·simp only [e1,za8,if_true]at j2
    subst j2
    simp only[if_true]at hR
    subst hR
    repeat' (first
 |simp only[go_sem,hF,hP,hZ,gA,e1,iC,mJ]
 |(with_reducible refine CU (c1 _) ?_)
 |(with_reducible refine CU (c2 _) ?_)
 |(with_reducible refine CU (c3 _) ?_)
 |(with_reducible first|refine bj fun hc=>?_|refine bk fun hc=>?_|refine bl (fun hc=>?_) fun hc=>?_)<;>(try simp only[hc,bs,↓reduceIte]at h)<;>try simp only[hc]
 |((with_reducible refine az hQ ?_);(try cases h);simp only[bt,bx,bY,bZ,go_sem,hF,hP,hZ,gA,e1,iC,mJ];try exact cB)
 | (cases h;done))
   rcases zad (x.s.name==nm)with e2|e2
   ·simp only [e1,e2,za1,za8,if_true]at j2
    subst j2
    simp only[if_true]at hR
    subst hR
    repeat' (first
 |simp only[go_sem,hF,hP,hZ,gA,e1,e2,iC,mJ]
 |(with_reducible refine CU (c1 _) ?_)
 |(with_reducible refine CU (c2 _) ?_)
 |(with_reducible refine CU (c3 _) ?_)
 |(with_reducible first|refine bj fun hc=>?_|refine bk fun hc=>?_|refine bl (fun hc=>?_) fun hc=>?_)<;>(try simp only[hc,bs,↓reduceIte]at h)<;>try simp only[hc]
 |((with_reducible refine az hQ ?_);(try cases h);simp only[bt,bx,bY,bZ,go_sem,hF,hP,hZ,gA,e1,e2,iC,mJ];try exact cB)
 | (cases h;done))
   rcases zad (x.s.proc==nm)with e3|e3
   ·simp only [e1,e2,e3,za1,za8,if_true]at j2
    subst j2
    simp only[if_true]at hR
    subst hR
    repeat' (first
 |simp only[go_sem,hF,hP,hZ,gA,e1,e2,e3,iC,mJ]
 |(with_reducible refine CU (c1 _) ?_)
 |(with_reducible refine CU (c2 _) ?_)
 |(with_reducible refine CU (c3 _) ?_)
 |(with_reducible first|refine bj fun hc=>?_|refine bk fun hc=>?_|refine bl (fun hc=>?_) fun hc=>?_)<;>(try simp only[hc,bs,↓reduceIte]at h)<;>try simp only[hc]
 |((with_reducible refine az hQ ?_);(try cases h);simp only[bt,bx,bY,bZ,go_sem,hF,hP,hZ,gA,e1,e2,e3,iC,mJ];try exact cB)
 | (cases h;done))
   rcases zad (dg x.s.said nm)with e4|e4
   ·simp only [e1,e2,e3,e4,za1,if_true]at j2
    subst j2
    simp only[if_true]at hR
    subst hR
    repeat' (first
 |simp only[go_sem,hF,hP,hZ,gA,e1,e2,e3,e4,iC,mJ]
 |(with_reducible refine CU (c1 _) ?_)
 |(with_reducible refine CU (c2 _) ?_)
 |(with_reducible refine CU (c3 _) ?_)
 |(with_reducible first|refine bj fun hc=>?_|refine bk fun hc=>?_|refine bl (fun hc=>?_) fun hc=>?_)<;>(try simp only[hc,bs,↓reduceIte]at h)<;>try simp only[hc]
 |((with_reducible refine az hQ ?_);(try cases h);simp only[bt,bx,bY,bZ,go_sem,hF,hP,hZ,gA,e1,e2,e3,e4,iC,mJ];try exact cB)
 | (cases h;done))
   ·simp only [e1,e2,e3,e4,za1,zab,if_false]at j2
    repeat' (first
 |simp only[go_sem,hF,hP,hZ,gA,e1,e2,e3,e4,iC,mJ]
 |(with_reducible refine CU (c1 _) ?_)
 |(with_reducible refine CU (c2 _) ?_)
 |(with_reducible refine CU (c3 _) ?_)
 |(with_reducible first|refine bj fun hc=>?_|refine bk fun hc=>?_|refine bl (fun hc=>?_) fun hc=>?_)<;>(try simp only[hc,bs,↓reduceIte]at h)<;>try simp only[hc]
 |((with_reducible refine az hQ ?_);(try cases h);simp only[bt,bx,bY,bZ,go_sem,hF,hP,hZ,gA,e1,e2,e3,e4,iC,mJ];try exact cB)
 | (cases h;done))
    refine cD 1 0 ?_ ?_ (yx (oD,k2+1) ⟨j6,j2⟩ (zaa _))
    ·(simp only[go_sem,hF,hP,hZ,gA,aC oZ];try exact bd)
    ·(simp only[go_sem,hF,hP,hZ,gA,aC oZ];try exact bd)
def Tt {α:Type} (o:Option α) (Q:α→Prop):Prop:=∃ a,o=some a∧Q a
structure Rd.Ok (r:Rd):Prop where
 k : ∀ t∈r.l,0≤t.kind∧t.kind≤4
 lt:r.i<r.l.length
 len:r.l.length≤2001
 last : ∀ t,r.l[r.l.length - 1]? = some t→t.kind=0
 n1:r.n≤201
structure Rd.To (r r':Rd):Prop where
 ok:r'.Ok
 l:r'.l=r.l
 i:r.i≤r'.i
 g:r'.good=true→r.good=true
 s:r.good=false→r'=r
structure Rd.ToE (r r':Rd):Prop where
 to:r.To r'
 n:r'.n=r.n
def ExT (r:Rd) (p:Ex×Rd):Prop:=r.ToE p.2∧(p.2.good=true→p.1.size+3+4*r.i≤4*p.2.i)
def StT (r:Rd) (p:Sm×Rd):Prop:=r.ToE p.2∧(p.2.good=true→p.1.size+1+8*r.i≤8*p.2.i)
structure StQ (r r':Rd):Prop where
 to:r.To r'
 n:r'.good=true→r'.n≤200
def ahU (r:Rd) (p:(List Sm×List aA)×Rd):Prop:=StQ r p.2∧(p.2.good=true→Sm.aM p.1.1+p.1.2.length+8*r.i≤8*p.2.i)
def ahV (t:eY):Prop:=1≤t.kind∧t.kind≤4
def UY:Nat:=20000
theorem H5:Cm UY source=some (nX,0,0):=by kernel_rfl
theorem MW:source.length<4611686018427387904:=by simp[source]
theorem EK:Nat.ble (nX.size+1) 1000=true:=by kernel_rfl
theorem MX:nX.size<1073741824:=Nat.lt_of_lt_of_le (za7 EK) (za7 rfl)
def ae0:Int→aA→Int
 |n,[]=>n
 |n,c::r=>ae0 (n*10+((c.toNat:Int) - 48)) r
def ae1:eY:=⟨0,[],0,0⟩
def aiw (x:eY ⊕ Int):eY×Int:=
 match x with
 | .inl t=>(t,0)
 | .inr e=>(ae1,e)
def aix (s:aA):aA:=s.take (min s.length 100100)
def Rd.ahj (n:Nat) (l:List aA) (fP:Int) (r:Rd):Option (List aA×Rd):=
 (r.take [44]).bind fun q=>if !q.1 then(q.2.want [59]).bind fun r=>some (l,r)else Rd.names n l fP q.2
def Z9 (s:aA):Bool:=s == [105,102] ||s == [119,104,105,108,101] ||s == [98,114,101,97,107] ||s == [99,111,110,116,105,110,117,101] ||s == [114,101,116,117,114,110] ||s == [103,111,116,111] ||s == [114,101,97,100] ||s == [112,114,105,110,116]
def Rd.UZ (m:Nat) (r:Rd):Option (List Ar×Rd):=
 (r.want [40]).bind fun r=>(r.take [41]).bind fun q=>
  if q.1 then some ([],q.2)
  else if q.2.good then(Rd.wv m m [] q.2).bind fun x=>(x.2.want [41]).bind fun r=>some (x.1,r)
  else some ([],q.2)
def Rd.pK (m:Nat) (name:aA) (r:Rd):Option (Sm×Rd):=
 (r.isO [40]).bind fun b=>
  if b then(Rd.UZ m r).bind fun q=>some (⟨0,4,[],[],name,lN,false,q.1,[],[]⟩,q.2)
  else(r.want [61]).bind fun r=>(r.ahead [40]).bind fun b=>
   if b then(r.name true).bind fun y=>(Rd.UZ m y.2).bind fun q=>some (⟨0,4,[],name,y.1,lN,false,q.1,[],[]⟩,q.2)
   else(Rd.whole m r).bind fun y=>some (⟨0,1,[],name,[],y.1,false,[],[],[]⟩,y.2)
def aiy (p:Sm×Rd):Option (Sm×Rd):=(p.2.want [59]).bind fun r=>some (p.1,r)
def cN (r:Rd):D:=match r.good with|true=> .int .i64 r.n|false=> .junk
instance (r:Rd):Cell (cN r):=by
 unfold cN
 cases r.good
 ·exact inferInstanceAs (Cell .junk)
 ·exact inferInstanceAs (Cell (.int .i64 _))
def stD (g:Bool) (v:Sm):List D:=match g with|true=>aH v|false=> [.junk, .junk, .junk, .junk, .junk, .junk, .junk, .junk, .junk, .junk, .junk, .junk, .junk]
def TW (l:List eY):Prop:=∀ t∈l,t.kind=4→Z9 t.text=false
abbrev ahm (m n:Nat):Prop:=∀ {k:Int} {z:D} [Cell z] {r r1:Rd} {p:(List Sm×List aA)×Rd},r.want [123] = some r1→Rd.rows m n k false r1=some p→TW r.l→(r1.good=true→z = .int .i64 r1.n)→(r1.good=true→r1.n≤200)→
 ∀ {s:St} {o:Nat},s.av[o]? = some (tR z r)→
 ay Tryz.prog 156 [.ptr o 0, .int .i64 k, .bool false] s (.tuple [.slice .shared 13 ((Sm.cv true r1.n p.1.1).1.map aH), .slice .shared 1 (p.1.2.map encStr)]) ⟨s.av.set o (tR (cN p.2) p.2),s.aw⟩
abbrev afd (m n:Nat):Prop:=∀ {nest:Int} {labels:List aA} {r:Rd} {p:Sm×Rd},Rd.stmt m n nest r=some p→r.good=true→TW r.l→r.n≤200→
 ∀ {s:St} {o:Nat},s.av[o]? = some (tR (.int .i64 r.n) r)→
 ay Tryz.prog 189 [.ptr o 0, .slice .shared 1 (labels.map encStr), .int .i64 nest] s (.agg (stD p.2.good (Sm.num true r.n {p.1 with labels:=labels}).1)) ⟨s.av.set o (tR (cN p.2) p.2),s.aw⟩
set_option maxHeartbeats 4000000
open Go.Proofs
def Rd.ahW (m:Nat) (r:Rd):Option (Pc×Rd):=
 (r.name true).bind fun x=>(x.2.want [40]).bind fun r=>(r.take [41]).bind fun q=>
  if q.1 then(q.2.want [123]).bind fun r=>Rd.wx m x.1 [] r
  else if q.2.good then(Rd.params m [] q.2).bind fun y=>(y.2.want [41]).bind fun r=>(r.want [123]).bind fun r=>Rd.wx m x.1 y.1 r
  else Rd.wx m x.1 [] q.2
end Go.Abs
namespace Go.Abs
set_option maxRecDepth 8000
set_option maxHeartbeats 4000000
open Go.Proofs
def Pc.fH (n:Nat):List Pc→Nat
 | []=>n
 |f::l=>Pc.fH (Sm.cv true n f.body).2 l
end Go.Abs
namespace Go.Abs
def M0:Map:=⟨fun _ _=>none,fun _=>(0, .any),fun _=>none⟩
def Kept (w w':World):Prop:=w.keptBut w' (fun _=>False)∧∀ a:Addr,a.block<w.heap.size→w'.frozen? a=w.frozen? a
theorem Kept.frame {w w':World} (h:Kept w w') (may:MemPlace→Prop):w.keptBut w' may:=World.keptBut_mono (fun _ f=>f.elim) h.1
theorem Ext.aac {M M':Map} {s':St} {w w':World} (e:Ext M S0 w M' s' w'):Kept w w':=by
 have hh : ∀ b,b<w.heap.size→w'.heap[b]? = w.heap[b]? :=fun b hb=>
  e.kept b hb (fun o ho=>by simp[S0]at ho) (fun t c z hl=>by obtain⟨n,hn⟩:=hl;simp[S0]at hn)
 refine⟨⟨e.os,e.output,fun i hi=>?_⟩,fun a ha=>?_⟩
 ·rw [hh i hi]
  exact(World.keptBut_refl w (fun _=>False)).2.2 i hi
 ·simp only[World.frozen?,hh _ ha]
theorem ae2 (G:Nat→Nat→Option Value) (w:World) (h : ∀ b o v,G b o=some v→w.cell? ⟨b,o,none⟩=some v∧v.oneCell'=true):Rel ⟨G,fun _=>(0, .any),fun _=>none⟩ S0 w:=
 ⟨h,fun o ds e=>by simp [S0]at e,fun o ho=>by simp [S0]at ho,fun o o' ho=>by simp [S0]at ho,fun t n e=>by simp [S0]at e,
  fun t b c z o hl=>by obtain⟨n,hn⟩:=hl;simp[S0]at hn,fun t t' b c z c' z' hl=>by obtain⟨n,hn⟩:=hl;simp[S0]at hn⟩
def MY (w:World):Prop:=∀ g cs,W6 g=some cs→∃ T fr,w.heap[g]? = some (.cells cs T fr)
theorem acx (G:Nat→Nat→Option Value) {w:World} (h:MY w):Laid ⟨G,fun _=>(0, .any),fun _=>none⟩ S0 w:=
 fun g cs hg=>⟨h g cs hg,fun o ho=>by simp[S0]at ho,fun t c z hl=>by obtain⟨n,hn⟩:=hl;simp[S0]at hn⟩
theorem Qi {P:Program} {f:FuncId} {args:List D} {fi:Array Value} {w:World} {G:Nat→Nat→Option Value} (h:dt P f args S0 fun d _=>d = .bool true)
 (hG : ∀ b o v,G b o=some v→w.cell? ⟨b,o,none⟩=some v∧v.oneCell'=true) (hl:fi.size=args.length)
 (ha : ∀ (i:Nat) (d:D) (v:Value),args[i]? = some d→fi[i]? = some v→RD ⟨G,fun _=>(0, .any),fun _=>none⟩ S0 d v) (iM:MY w) :
 Calls P f fi w fun e w'=>e = .returned (.bool true)∧Kept w w':=by
 refine(h _ w fi (ae2 G w hG) (acx G iM) hl ha).mono fun e w' hw=>?_
 obtain⟨M',d,v,s',rfl,rfl,he,_,hv⟩:=hw
 rw[hv.lR]
 exact⟨rfl,he.aac⟩
section
variable {P:Program} {H:Type} {enc:TypeId×Value→H}
theorem H6 {f:Func} {s:ChangeSpec} {apart fresh handsOn again:Bool} {W W':World} {args:Array Value} {v:Value} {ds gs:List (DataW H)} {before pa pv:List MemPlace}
 (hW:DataW.Whole enc P f.params.toList s.vars apart W args.toList ds gs before)
 (MT : ∀ (b:Nat) (sp:Nat→Bool) (hd:Bool),DataW.TrodAll enc P W' b sp hd f.resultTypes.toList (v.resultList f.resultTypes.size) (s.fn H (ds++gs)).results [])
 (Fh : ∀ sp:Nat→Bool,(∀ p∈before,sp p.block=true)→DataW.TrodAll enc P W' 0 sp true f.params.toList args.toList (s.fn H (ds++gs)).args pa)
 (CD : ∀ sp:Nat→Bool,(∀ p∈before,sp p.block=true)→DataW.TrodVars enc P W' sp s.vars (s.fn H (ds++gs)).vars pv)
 (rl:before=pa++pv) (hk:Kept W W')
 (zT : ∀ (j:Nat) (t:TypeId) (r:Value),f.resultTypes[j]? = some t→(v.resultList f.resultTypes.size)[j]? = some r→Value.okWide P W' .any 0 t r) :
 s.post enc P f apart fresh handsOn again W args v W':=by
 have hF : ∀ p∈before,p.block<W.heap.size:=fun p hp=>hW.lt p hp
 have hold : ∀ p∈before,(fun b=>decide (b<W.heap.size)) p.block=true:=fun p hp=>by simpa using hF p hp
 refine⟨ds,gs,before,[],pa,pv,hW,MT _ _ _,Fh _ hold,CD _ hold,World.keptBut_mono (fun p hp=>⟨hp, ?_⟩) (hk.frame (· ∈before)),fun _=>?_⟩
 ·rw [rl,zaw]at hp
  exact Or.inr hp
 ·obtain⟨_,_,_,_,_,hz,hn⟩:=hW
  refine⟨zT,_,_,([]++pa)++pv,⟨[]++pa,pv,ChangeShapes.trodAll_append (Fh _ (fun _ _=>rfl)) (MT _ _ _),CD _ (fun _ _=>rfl),rfl, ?_, ?_⟩, ?_⟩
  ·intro b off hp
   have la:MemPlace.cell b off∈before:=by rw[rl];simpa using hp
   rw[hk.2 _ (hF _ la)]
   exact hz b off la
  ·intro ha
   have:=hn ha
   rw[rl]at this
   simpa using this
  ·intro p hp _
   rw[rl]
   simpa using hp
end
end Go.Abs
namespace Go.Abs
open Go.Proofs
def NW (t:eY):Prop:=t.kind=4→Z9 t.text=false
set_option maxRecDepth 8000
open Go.Proofs
def CF (p:Pg) (c tF:Int):Pg×Int×Int:=if c==0 then(if p.check.1==0 then(p,0,0)else(Bp,p.check))else(Bp,c,tF)
theorem WZ {T:aA} {p:Pg} {c tF:Int} (h:Cm UY T=some (p,c,tF)) (hm:c=0→p.may=true∧tF=0) (hp:p.size<100000) (hl:T.length<4611686018427387904) (s:St) :
 ay Tryz.prog 19 [.str T] s (.tuple [.agg (bf (CF p c tF).1), .agg (lu (CF p c tF).2)]) s:=by
 refine ay.pure ?_ rfl (by simp[D.bg,D.ok,fm,lu]) s
 have h1:=fun s=>WN h hl s
 have e0:bf Bp = [.slice .shared 1 [], .slice .shared 5 []]:=rfl
 unfold S0
 unfold CF
 have b0:(c != 0) = !(c==0):=rfl
 rcases zad (c==0)with b1|b1
 case inr=>
  simp only[b1,zab,if_false]
  rw[b1]at b0
  refine ay.go qm.h rfl fun B Q hB hQ=>?_
  have⟨hF,hP,hZ,gA⟩:=bD
  repeat' (first
 |simp only[go_sem,hF,hP,hZ,gA,b1,b0,zaB,lu,e0]
 |(with_reducible refine CU (h1 _) ?_)
 |(with_reducible refine az hQ ?_;exact aR))
 have hc:c=0:=by simpa using b1
 subst hc
 obtain⟨MZ,hf⟩:=hm rfl
 subst hf
 have ho:p.iJ:=⟨nz MZ (by omega),by omega⟩
 have h2:=fun s=>HW ho s
 have b3:(p.check.1 != 0) = !(p.check.1==0):=rfl
 simp only[b1,if_true]
 rcases zad (p.check.1==0)with b2|b2
 case inr=>
  simp only[b2,zab,if_false]
  rw[b2]at b3
  refine ay.go qm.h rfl fun B Q hB hQ=>?_
  have⟨hF,hP,hZ,gA⟩:=bD
  repeat' (first
 |simp only[go_sem,hF,hP,hZ,gA,b1,b3,zaB,lu,e0]
 |(with_reducible refine CU (h1 _) ?_)
 |(with_reducible refine CU (h2 _) ?_)
 |(with_reducible refine az hQ ?_;exact aR))
 simp only[b2,if_true]
 rw[b2]at b3
 refine ay.go qm.h rfl fun B Q hB hQ=>?_
 have⟨hF,hP,hZ,gA⟩:=bD
 repeat' (first
 |simp only[go_sem,hF,hP,hZ,gA,b1,b3,zax,lu]
 |(with_reducible refine CU (h1 _) ?_)
 |(with_reducible refine CU (h2 _) ?_)
 |(with_reducible refine az hQ ?_;exact aR))
theorem Ai:nX.check=(0,0):=by decide +kernel
theorem Qj:Pc.nD nX.procs=8:=by decide +kernel
theorem Qk:Bp.check=(5,0):=by decide +kernel
theorem Ql (s:St):ay Tryz.prog 12 [] s (.bool true) s:=by
 refine ay.pure ?_ rfl rfl s
 have cV:=MX
 have No:nX.size<100000:=by have:=za7 EK;omega
 have MZ:nX.may=true:=by decide +kernel
 have ho:nX.iJ:=⟨nz MZ (by omega),by omega⟩
 have h1:=fun s=>WZ H5 (fun _=>⟨MZ,rfl⟩) No MW s
 have e:CF nX 0 0=(nX,0,0):=by unfold CF;rw[Ai];rfl
 rw[e]at h1
 have h2:=fun s=>Cv ho s
 rw[Ai]at h2
 have h3:=fun s=>JT (p:=nX) (by omega) s
 rw[Qj]at h3
 have z0:((0:Int)==0)=true:=rfl
 have z8:(((8:Nat):Int)==8)=true:=rfl
 have z5:((5:Int)==5)=true:=rfl
 have h4':=fun s=>(HW ZW s).Jt (d:= .agg [.slice .full 0 [], .slice .full 0 []]) (Wk.agg (.cons (Wk.nil _ _ _) (.cons (Wk.nil _ _ _) .nil)))
 simp only[Qk]at h4'
 unfold S0
 refine ay.go zD.h rfl fun B Q hB hQ=>?_
 have⟨hF,hP,hZ,gA⟩:=bD
 repeat' (first
 |simp only[go_sem,hF,hP,hZ,gA,z0,z8,z5,lu]
 |(with_reducible refine CU (Tk _) ?_)
 |(with_reducible refine CU (ZV _) ?_)
 |(with_reducible refine CU (h1 _) ?_)
 |(with_reducible refine CU (h2 _) ?_)
 |(with_reducible refine CU (h3 _) ?_)
 |(with_reducible refine CU (h4' _) ?_)
 |(with_reducible refine az hQ ?_;exact aR))
mutual
theorem Qm {g:Sm→Sm} : ∀ s:Sm,(∀ v∈s.pre,g v=v)→s.cw g=s
 |⟨id,kind,labels,name,proc,x,has,args,aV,aN⟩,h=>by
  rw[zn,h _ (by rw[Sm.sR];exact zaD ..)]
  dsimp only
  rw[sq aV fun v m=>h v (by rw[Sm.sR];exact zav _ (zaP _ m)),sq aN fun v m=>h v (by rw[Sm.sR];exact zav _ (za3 _ m))]
theorem sq {g:Sm→Sm} : ∀ l:List Sm,(∀ v∈Sm.cP l,g v=v)→Sm.dK g l=l
 | [],_=>rfl
 |s::l,h=>by
  simp only[Sm.cP,zaw]at h
  simp only[Sm.dK]
  rw[Qm s fun v m=>h v (.inl m),sq l fun v m=>h v (.inr m)]
end
theorem Tz {p:Pg} {t:Sm} (h : ∀ v∈p.pre,v.id≠t.id):p.put t=p:=by
 obtain⟨globals,procs⟩:=p
 simp only[Pg.put,Pg.cw]
 congr 1
 conv=>rhs;rw[← List.map_id procs]
 refine zbv fun f hf=>?_
 simp only[Pc.cw,id_eq]
 rw[sq f.body fun v m=>?_]
 have:v.id≠t.id:=h v (by simp only[Pg.pre,zbo,zaH];exact⟨_,⟨f,hf,rfl⟩,m⟩)
 unfold bL
 rw[if_neg (by simpa using this)]
theorem H7 {p:Pg} (h:p.Right):p.procs≠ []:=fun e=>by
 have:=h.main
 simp[Pg.nB,Pg.find,e,iB]at this
set_option maxHeartbeats 8000000
open Go.Proofs
abbrev aad:AC:= .sub [1,1,1,1,1,1] fv.body
abbrev W0:AC:= .sub [1,1,1,1,1,1,1] fv.body
abbrev Dw:AC:= .sub [1,1,1,1,1,1,1,1,1,1] fv.body
theorem yV (t:aA) (s:St):ay Tryz.prog 28 [.str t] s (.bool (isName t)) s:=by
 by_cases hl:t.length<9
 ·exact vJ t (by omega) s
 ·refine ay.pure ?_ rfl rfl s
  cases t with
  |nil=>simp at hl
  |cons c r=>
   simp only[zal]at hl
   have l1:decide (((r.length+1:Nat):Int)<1)=false:=by simp;omega
   have c8:decide (((r.length+1:Nat):Int) > 8)=true:=by simp;omega
   have h:isName (c::r)=false:=by simp only[isName,c8,za8,↓reduceIte]
   rw[h]
   unfold S0
   refine ay.go kc.h rfl fun B Q hB hQ=>?_
   have⟨hF,hP,hZ,gA⟩:=bD
   repeat' (first
 |simp only[go_sem,hF,hP,hZ,gA,l1,c8]
 |(with_reducible first|refine bj fun hc=>?_|refine bk fun hc=>?_|refine bl (fun hc=>?_) fun hc=>?_)<;>(try simp only[hc,bs,↓reduceIte]at h)<;>try simp only[hc]
 |((with_reducible refine az hQ ?_);(try cases h);simp only[bt,bx,bY,bZ,go_sem,hF,hP,hZ,gA,l1,c8];try exact cB)
 |(cases h;done))
theorem aae (A:List Pc) (f:Pc) (d:D) (C:List Pc):(b8 A f d C)[A.length*5+3]? = some d:=by
 unfold b8
 rw[zau (by rw[nr];omega),nr,show A.length*5+3 - A.length*5=3 by omega]
 rfl
theorem acy (A:List Pc) (f:Pc) (d d':D) (C:List Pc):eH (b8 A f d C) (A.length*5+3) [d'] = b8 A f d' C:=by
 have hl:=nr A
 unfold eH b8
 rw[List.take_append,hl,show A.length*5+3 - A.length*5=3 by omega,List.take_of_length_le (by rw[hl];omega),List.drop_append,hl,List.drop_eq_nil_of_le (by rw[hl];simp;omega),
  show A.length*5+3 + [d'].length - A.length*5=4 by simp;omega]
 simp[pP]
theorem aaf (A:List Pc) (f:Pc) (b:List Sm) (C:List Pc):b8 A f (.slice .shared 13 (b.map aH)) C=((A++ {f with body:=b}::C).map bn).flatten:=by
 simp[b8,pP,bn]
theorem TA (o g:Nat) (rows:List (List D)) (a b:List D):D.gi o g rows (a++b)=D.gi o g rows a++D.gi o g rows b:=by simp[ly]
theorem aag (o g:Nat) (rows:List (List D)) (A:List Pc) (f:Pc) (d:D) (C:List Pc):D.gi o g rows (b8 A f d C)=b8 A f (d.ek o g rows) C:=by
 have e1 : ∀ l:List Pc,D.gi o g rows ((l.map bn).flatten)=(l.map bn).flatten:=fun l=>mw _ _ _ _ (zo l)
 have e2:D.mE o g rows (f.params.map df)=f.params.map df:=nQ _ _ _ _ (wu f.params)
 have e3 : ∀ l:List aA,D.mE o g rows (l.map encStr)=l.map encStr:=fun l=>nQ _ _ _ _ (dd l)
 simp[b8,TA,e1,pP,D.gi,D.ek,e2,e3]
theorem WkX (A:List Pc) (f:Pc) {d d':D} (C:List Pc) (h:Wk d d'):gw (b8 A f d C) (b8 A f d' C):=by
 refine gw.append (gw.refl _) (gw.append ?_ (gw.refl _))
 exact .cons (Wk.refl _) (.cons (Wk.refl _) (.cons (Wk.refl _) (.cons h (.cons (Wk.refl _) .nil))))
theorem TB (nm:aA) (A C:List Pc) (y:Pc):iO nm A.length (A++y::C)=A++y.grow nm::C:=by
 induction A with
 |nil=>rfl
 |cons a A ih=>simp only[zal,zaJ,iO,ih]
def gC (nm:aA):List D:= [.int .i64 0, .int .i64 3, .slice .full 1 [[.str nm]], .str [], .str [], .int .i64 1, .int .i64 3, .str [], .slice .full 0 [], .bool false, .slice .full 0 [], .slice .full 0 [], .slice .full 0 []]
def Qn:List D:= [.int .i64 0, .int .i64 0, .slice .full 0 [], .str [], .str [], .int .i64 0, .int .i64 0, .str [], .slice .full 0 [], .bool false, .slice .full 0 [], .slice .full 0 [], .slice .full 0 []]
theorem aah (nm:aA):gw (gC nm) (aH (jt nm)):=by
 unfold gC jt
 rw[bU]
 simp only[zaj,zaf,encStr]
 repeat' (first|exact Ok.out|exact Wk.refl _|exact Wk.nil _ _ _|exact Wk.shared _ _ _|with_reducible refine gw.cons ?_ ?_)
section
variable {B:ey} {Q:Exit→Tm→St→Prop} {p:Pg}
theorem W1 (hB:B.s = ⟨[],[]⟩) (hQ:gy 0 0 [(6,none)] (.bool true) ⟨[],[]⟩=Q) (ho:p.iJ) {r:Pg} (hr:r.size<1000000) (h0:r.procs≠ [])
 (h:(Pc.nD p.procs:Int)≠200→r.number.iJ∧(r.number.check.1==0)=true) :
 Sem Tryz.prog B 135 Dw Q [(3, .ptr 0 0),(8, .ptr 1 0)] ⟨[bf p,bf r],[]⟩:=by
 have⟨hF,hP,hZ,gA⟩:=bD
 have h1:=fun s=>JT (p:=p) (by have:=ho.sz;omega) s
 have h2:=fun s=>P9 hr h0 s
 refine gu ?_
 rcases zad ((Pc.nD p.procs:Int)==200)with b1|b1
 ·repeat' (first
 |simp only[go_sem,hF,hP,hZ,gA,b1]
 |(with_reducible refine CU (h1 _) ?_)
 |(with_reducible first|refine bj fun hc=>?_|refine bk fun hc=>?_|refine bl (fun hc=>?_) fun hc=>?_)<;>(try simp only[hc,bs,↓reduceIte]at h)<;>try simp only[hc]
 |((with_reducible refine az hQ ?_);(try cases h);simp only[bt,bx,bY,bZ,go_sem,hF,hP,hZ,gA,b1];try exact cB)
 |(cases h;replace h:=hr;clear hr;(try simp only[bs,↓reduceIte]at h))
 |(cases h;done))
 ·obtain⟨k1,k2⟩:=h (by simpa using b1)
  have h3:=fun s=>Cv k1 s
  rw[k2]at h3
  generalize r.number=R at *
  repeat' (first
 |simp only[go_sem,hF,hP,hZ,gA,b1]
 |(with_reducible refine CU (h1 _) ?_)
 |(with_reducible refine CU (h2 _) ?_)
 |(with_reducible refine CU (h3 _) ?_)
 |(with_reducible first|refine bj fun hc=>?_|refine bk fun hc=>?_|refine bl (fun hc=>?_) fun hc=>?_)<;>(try simp only[hc,bs,↓reduceIte]at h)<;>try simp only[hc]
 |((with_reducible refine az hQ ?_);(try cases h);simp only[bt,bx,bY,bZ,go_sem,hF,hP,hZ,gA,b1];try exact cB)
 |(cases h;replace h:=hr;clear hr;(try simp only[bs,↓reduceIte]at h))
 |(cases h;done))
theorem J1 (hB:B.s = ⟨[],[]⟩) {E0:List D} (hE:D.bg 0 0 E0=true) {globals:List aA} {A C:List Pc} {y:Pc} {nm:aA} {g m len:Nat} {b:List Sm} (hb:b.length=m) (hlen:len=A.length+1+C.length)
 (Qo:Sem Tryz.prog B 135 Dw Q [(3, .ptr 0 0),(8, .ptr 1 0)] ⟨[E0,bf ⟨globals,A++ {y with body:=b++ [jt nm]}::C⟩],[]⟩) :
 Sem Tryz.prog B 135 Dw Q [(3, .ptr 0 0),(8, .ptr 1 0)] ⟨[E0,[.slice .shared 1 (globals.map encStr), .bX 5 2 g len], .int .i64 (g:Int)::b8 A y (.bX 13 3 m (m+1)) C, .int .i64 (m:Int)::((b.map aH).flatten++gC nm)],[]⟩:=by
 have hn:B.s.av.length≤2:=by rw[hB];exact zar _
 have hn3:B.s.av.length≤3:=by rw[hB];exact zar _
 have e1 : ∀ l:List aA,∀ o g rows,D.mE o g rows (l.map encStr)=l.map encStr:=fun l o g rows=>nQ _ _ _ _ (dd l)
 have e2 : ∀ l:List aA,∀ n m,D.iI n m (l.map encStr)=l.map encStr:=fun l n m=>rh _ _ _ (dd l)
 have f0 : ∀ o g rows n m,kJ o g rows n m E0=E0:=fun o g rows n m=>by unfold kJ;rw[mw _ _ _ _ hE,fU _ _ _ hE]
 refine Sem.yz 3 m 13 (b.map aH++ [gC nm]) [(3, .ptr 0 0),(8, .ptr 1 0)] [E0,[.slice .shared 1 (globals.map encStr), .bX 5 2 g len], .int .i64 (g:Int)::b8 A y (.slice .shared 13 ((b++ [jt nm]).map aH)) C] hn3
  (by simp) ⟨A.length*5+4,m+1, .inr ⟨2,_,rfl, ?_⟩⟩ (fun row hr=>?_) ?_ ?_ ?_
 ·show(_::b8 A y (.bX 13 3 m (m+1)) C)[A.length*5+3+1]? = _
  rw[zaW];exact aae A y _ C
 ·rcases zaw.1 hr with h | h
  ·obtain⟨v,_,rfl⟩:=zaH.1 h
   exact JB v
  ·rw [zbd]at h
   subst h;rfl
 ·simp only [go_sem]
  repeat' (first|exact Ok.out|with_reducible refine dZ ?_ ?_)
 ·have hl:m+1=(b.map aH++ [gC nm]).length:=by simp [hb]
  have f1:kJ 3 m (b.map aH++ [gC nm]) 3 0 [.slice .shared 1 (globals.map encStr), .bX 5 2 g len] = [.slice .shared 1 (globals.map encStr), .bX 5 2 g len]:=by
   simp[kJ,D.gi,D.ek,D.eI,D.fg,Tag.fg,e1,e2]
  have f2:kJ 3 m (b.map aH++ [gC nm]) 3 0 (.int .i64 (g:Int)::b8 A y (.bX 13 3 m (m+1)) C) = .int .i64 (g:Int)::b8 A y (.slice .shared 13 (b.map aH++ [gC nm])) C:=by
   have e3:D.ek 3 m (b.map aH++ [gC nm]) (.bX 13 3 m (m+1)) = .slice .shared 13 (b.map aH++ [gC nm]):=by simp only[D.ek, ← hl,and_self,if_true]
   have e4:D.fg 3 0 (.slice .shared 13 (b.map aH++ [gC nm])) = .slice .shared 13 (b.map aH++ [gC nm]):=by
    refine Bo _ _ _ ?_
    simp[D.ok,Tag.ok,sJ,gC,D.bg,il,D.fu]
   unfold kJ
   rw[D.gi,aag,e3,D.ek,D.eI,FA,e4,D.fg]
  show fT [kJ 3 m (b.map aH++ [gC nm]) 3 0 E0,kJ 3 m (b.map aH++ [gC nm]) 3 0 [.slice .shared 1 (globals.map encStr), .bX 5 2 g len],kJ 3 m (b.map aH++ [gC nm]) 3 0 (.int .i64 (g:Int)::b8 A y (.bX 13 3 m (m+1)) C)] _
  rw[f0,f1,f2]
  refine .cons (gw.refl _) (.cons (gw.refl _) (.cons (.cons (Wk.refl _) (WkX A y C ?_)) .nil))
  rw[zah]
  exact Wk.rows (.append (.refl _) (.cons (aah nm) .nil))
 ·rw [aaf]
  have hl:len=((A++ {y with body:=b++ [jt nm]}::C).map bn).length:=by simp[hlen];omega
  generalize A++ {y with body:=b++ [jt nm]}::C=R at *
  refine Sem.yz 2 g 5 (R.map bn) [(3, .ptr 0 0),(8, .ptr 1 0)] [E0,bf ⟨globals,R⟩] hn rfl ⟨1,len, .inr ⟨1,_,rfl,rfl⟩⟩ (fun row hr=>by obtain⟨a,_,rfl⟩:=zaH.1 hr;rfl) ?_ ?_ Qo
  ·simp only [go_sem]
   repeat' (first|exact Ok.out|with_reducible refine dZ ?_ ?_)
  ·have f1:kJ 2 g (R.map bn) 2 0 [.slice .shared 1 (globals.map encStr), .bX 5 2 g len] = bf ⟨globals,R⟩:=by
    have e3:D.iI 2 0 (R.map bn)=R.map bn:=rh _ _ _ (sf R)
    simp only[kJ,D.gi,D.ek, ← hl,and_self,if_true,D.eI,D.fg,Tag.fg,e1,e2,e3]
    rfl
   show fT [kJ 2 g (R.map bn) 2 0 E0,kJ 2 g (R.map bn) 2 0 [.slice .shared 1 (globals.map encStr), .bX 5 2 g len]] _
   rw[f0,f1]
   exact fT.refl _
theorem EL (nm:aA) : ∀ (k:Nat) (l:List Pc),Pc.aM (iO nm k l)≤Pc.aM l+100
 |k,[]=>by cases k<;>simp[iO,Pc.aM]
 | 0,f::l=>by
  have : ∀ m:List Sm,Sm.aM (m++ [jt nm])=Sm.aM m+Sm.aM [jt nm]:=fun m=>by
   induction m with
   |nil=>simp[Sm.aM]
   |cons v m ih=>simp only[zaJ,Sm.aM,ih];omega
  have h2:Sm.aM [jt nm]≤100:=by simp[Sm.aM,Sm.size,jt,Ex.size,Ex.aM,Ar.aM]
  simp only[iO,Pc.aM,Pc.size,Pc.grow,this]
  omega
 |k+1,f::l=>by
  have:=EL nm k l
  simp only[iO,Pc.aM]
  omega
theorem W2 (hB:B.s = ⟨[],[]⟩) (hQ:gy 0 0 [(6,none)] (.bool true) ⟨[],[]⟩=Q) (sG:p.Right) (cV:p.size≤800000) (Dx:p.put ep=p) {nm:aA} (D1:isName nm=true) (FC:p.used nm=false) (n:Int) :
 Sem Tryz.prog B 135 W0 Q [(1, .int .i64 n),(2, .str nm),(3, .ptr 0 0)] ⟨[bf p],[]⟩:=by
 have⟨hF,hP,hZ,gA⟩:=bD
 have ho:p.iJ:=⟨nz sG.may (by omega),by omega⟩
 have dL:=H7 sG
 have Qp:=fun k hc=>MV sG (nm:=nm) k D1 FC hc
 have ae3:Pc.nD p.procs≤200:=by rw[← xa];exact(JV sG.may).n4
 obtain⟨globals,procs⟩:=p
 dsimp only at dL ae3
 have mW:0<procs.length:=zbf.2 dL
 have hlen:procs.length<1000000:=by simp only[Pg.size]at cV;have:=Pc.cd procs;omega
 have CS:=fun s=>acn n (k:=(procs.length:Int)) (by omega) (by omega) s
 obtain⟨m1,m2⟩:=WO n (k:=(procs.length:Int)) (by omega)
 generalize wX n (procs.length:Int)=m at *
 obtain⟨k,rfl⟩ : ∃ k:Nat,m=(k:Int):=⟨m.toNat,by omega⟩
 obtain⟨A,y,C,hs,hk⟩ : ∃ A y C,procs=A++y::C∧A.length=k:=by
  have hkl:k<procs.length:=by omega
  refine⟨procs.take k,procs[k],procs.drop (k+1), ?_,by rw[zbw];omega⟩
  rw[← List.drop_eq_getElem_cons hkl,List.take_append_drop]
 subst hk
 have qc:A.length<procs.length:=by omega
 have vQ:procs.map (Pc.cw (bL ep))=procs:=congrArg Pg.procs Dx
 have ae4:A.map (Pc.cw (bL ep))=A∧Pc.cw (bL ep) y=y∧C.map (Pc.cw (bL ep))=C:=by
  rw[hs,zah,zaf]at vQ
  obtain⟨e1,e2⟩:=List.append_inj vQ (zat ..)
  injection e2 with e2 e3
  exact⟨e1,e2,e3⟩
 obtain⟨hA,Z4,hC⟩:=ae4
 have hy:Sm.dK (bL ep) y.body=y.body:=congrArg Pc.body Z4
 have U0:(⟨globals,procs⟩:Pg).grow nm A.length = ⟨globals,A++y.grow nm::C⟩:=by
  simp only[Pg.grow];rw[hs,TB]
 have hrs:((⟨globals,procs⟩:Pg).grow nm A.length).size≤800100:=by
  have:=EL nm A.length procs
  simp only[Pg.size,Pg.grow]at cV ⊢
  omega
 have Qo:=W1 (B:=B) (Q:=Q) hB hQ ho (r:=(⟨globals,procs⟩:Pg).grow nm A.length) (by omega) (by rw[U0];simp) fun ae5=>by
  have hr:=Qp A.length (by show Pc.nD procs<200;have h2:(Pc.nD procs:Int)≠200:=ae5;omega)
  have KK:((⟨globals,procs⟩:Pg).grow nm A.length).number.size≤800100:=by rw[Pg.HX];exact hrs
  exact⟨⟨nz hr.may (by omega),by omega⟩,by rw[hr.check];rfl⟩
 rw[U0]at Qo
 have xx:bf (⟨globals,procs⟩:Pg) = [.slice .shared 1 (globals.map encStr), .slice .shared 5 (procs.map bn)]:=rfl
 have tX:=fun d=>aae A y d C
 have jD:=fun d d'=>acy A y d d' C
 have vN:=fun d=>SP A y d C
 have hCl:A.length+1+C.length=procs.length:=by rw[hs];simp;omega
 rw[hCl]at vN
 have yW:A.length*5+3+1≤procs.length*5:=by omega
 by_cases h0:y.body = []
 ·have xA:=fun s=>Zk (globals:=globals) (by omega) hs h0 hA hC s
  simp only[xx]at xA
  refine Sem.fY ?_
  repeat' (first
 |simp only[go_sem,hF,hP,hZ,gA]
 |(with_reducible refine CU (xA _) ?_)
 |(with_reducible first|refine bj fun hc=>?_|refine bk fun hc=>?_|refine bl (fun hc=>?_) fun hc=>?_)<;>(try simp only[hc,bs,↓reduceIte]at h)<;>try simp only[hc]
 |((with_reducible refine az hQ ?_);exact dv)
 |(cases h;replace h:=hr;clear hr;(try simp only[bs,↓reduceIte]at h))
 |(cases h;done))
  refine Sem.fY ?_
  repeat' (first
 |simp only[go_sem,hF,hP,hZ,gA]
 |(with_reducible refine CU (CS _) ?_)
 |(with_reducible first|refine bj fun hc=>?_|refine bk fun hc=>?_|refine bl (fun hc=>?_) fun hc=>?_)<;>(try simp only[hc,bs,↓reduceIte]at h)<;>try simp only[hc]
 |((with_reducible refine az hQ ?_);exact dv)
 |(cases h;replace h:=hr;clear hr;(try simp only[bs,↓reduceIte]at h))
 |(cases h;done))
  refine Sem.fY ?_
  repeat' (first
 |simp only[go_sem,hF,hP,hZ,gA]
 |(with_reducible first|refine bj fun hc=>?_|refine bk fun hc=>?_|refine bl (fun hc=>?_) fun hc=>?_)<;>(try simp only[hc,bs,↓reduceIte]at h)<;>try simp only[hc]
 |((with_reducible refine az hQ ?_);exact dv)
 |(cases h;replace h:=hr;clear hr;(try simp only[bs,↓reduceIte]at h))
 |(cases h;done))
  have H8:=J1 (B:=B) (Q:=Q) (nm:=nm) (A:=A) (y:=y) (C:=C) (globals:=globals) (g:=procs.length - 1) (m:=0) (len:=procs.length) (b:= []) hB (fm ⟨globals,procs⟩) rfl (by omega) (by rw[zaR];have:=Qo;unfold Pc.grow at this;rw[h0]at this;exact this)
  rw[xx]at H8
  have cY:=fun(tg:Tag) (r:List D) (s:St)=>sW (z:=13) (bytes:=208) tg r s (by simp only[aT];omega)
  intro bb
  cases bb
  ·repeat' (first
 |simp only[go_sem,hF,hP,hZ,gA,qc,tX,jD,vN,yW,cY]
 |(with_reducible first|refine bj fun hc=>?_|refine bk fun hc=>?_|refine bl (fun hc=>?_) fun hc=>?_)<;>(try simp only[hc,bs,↓reduceIte]at h)<;>try simp only[hc]
 |((with_reducible refine az hQ ?_);(try cases h);simp only[bt,bx,bY,bZ,go_sem,hF,hP,hZ,gA,qc,tX,jD,vN,yW,cY];try exact cB)
 |(cases h;replace h:=hr;clear hr;(try simp only[bs,↓reduceIte]at h))
 | (cases h;done))
   refine Sem.oN hB [0,2,1,4] _ [(3, .ptr 0 0),(8, .ptr 1 0)] (by decide) (by simp) (by simp[kq,D.ct,D.bw,D.bg,D.ok,Tag.bw,Tag.ok,iW,jY,dQ,fh,jj,lY,D.kb,D.fu,gC]) (by simp[mf,Tm.get,D.bw,D.ok]) H8
  ·have xf:oe (.bX 13 4 0 1) (.int .i64 0) 13=some (.ew 4 0 0):=by simp [oe]
   repeat' (first
 |simp only[go_sem,hF,hP,hZ,gA,qc,tX,jD,vN,yW,cY,xf]
 |(with_reducible first|refine bj fun hc=>?_|refine bk fun hc=>?_|refine bl (fun hc=>?_) fun hc=>?_)<;>(try simp only[hc,bs,↓reduceIte]at h)<;>try simp only[hc]
 |((with_reducible refine az hQ ?_);(try cases h);simp only[bt,bx,bY,bZ,go_sem,hF,hP,hZ,gA,qc,tX,jD,vN,yW,cY,xf];try exact cB)
 |(cases h;replace h:=hr;clear hr;(try simp only[bs,↓reduceIte]at h))
 | (cases h;done))
   refine Sem.oN hB [0,2,1,4] _ [(3, .ptr 0 0),(8, .ptr 1 0)] (by decide) (by simp) (by simp[kq,D.ct,D.bw,D.bg,D.ok,Tag.bw,Tag.ok,iW,jY,dQ,fh,jj,lY,D.kb,D.fu,gC]) (by simp[mf,Tm.get,D.bw,D.ok]) H8
 ·have xA:=fun s=>Zj (globals:=globals) (by omega) hs h0 hA hC hy s
  simp only[xx]at xA
  obtain⟨m,hm⟩ : ∃ m,y.body.length=m:=⟨_,rfl⟩
  have hm0:0<m:=by rw[← hm];exact zbf.2 h0
  simp only[jq,hm]at xA
  refine Sem.fY ?_
  repeat' (first
 |simp only[go_sem,hF,hP,hZ,gA]
 |(with_reducible refine CU (xA _) ?_)
 |(with_reducible first|refine bj fun hc=>?_|refine bk fun hc=>?_|refine bl (fun hc=>?_) fun hc=>?_)<;>(try simp only[hc,bs,↓reduceIte]at h)<;>try simp only[hc]
 |((with_reducible refine az hQ ?_);exact dv)
 |(cases h;replace h:=hr;clear hr;(try simp only[bs,↓reduceIte]at h))
 |(cases h;done))
  refine Sem.fY ?_
  repeat' (first
 |simp only[go_sem,hF,hP,hZ,gA]
 |(with_reducible refine CU (CS _) ?_)
 |(with_reducible first|refine bj fun hc=>?_|refine bk fun hc=>?_|refine bl (fun hc=>?_) fun hc=>?_)<;>(try simp only[hc,bs,↓reduceIte]at h)<;>try simp only[hc]
 |((with_reducible refine az hQ ?_);exact dv)
 |(cases h;replace h:=hr;clear hr;(try simp only[bs,↓reduceIte]at h))
 |(cases h;done))
  refine Sem.fY ?_
  repeat' (first
 |simp only[go_sem,hF,hP,hZ,gA]
 |(with_reducible first|refine bj fun hc=>?_|refine bk fun hc=>?_|refine bl (fun hc=>?_) fun hc=>?_)<;>(try simp only[hc,bs,↓reduceIte]at h)<;>try simp only[hc]
 |((with_reducible refine az hQ ?_);exact dv)
 |(cases h;replace h:=hr;clear hr;(try simp only[bs,↓reduceIte]at h))
 | (cases h;done))
  have H8:=J1 (B:=B) (Q:=Q) (nm:=nm) (A:=A) (y:=y) (C:=C) (globals:=globals) (g:=procs.length - 1) (m:=m) (len:=procs.length) (b:=y.body) hB (fm ⟨globals,procs⟩) hm (by omega) Qo
  rw[xx]at H8
  have e3:m - 1+1=m:=by omega
  have hml:m≤1000000:=by
   have h1:=Sm.cd y.body
   have h2:=Pc.bC (show y∈procs by rw[hs];simp)
   simp only[Pc.size]at h2
   simp only[Pg.size]at cV
   omega
  have ib:=Ph y.body
  rw[hm]at ib
  have gv:=fun(tg:Tag) (r a b' c d:List D) (T:List (Option Nat))=>mq (s:=⟨[a,b', .int .i64 ((m - 1:Nat):Int)::(y.body.map aH).flatten,c,d],T⟩) (o:=2) (g:=m - 1) (len:=m) (z:=13) (bytes:=208) (t:=tg) (r:=r) rfl ib (by unfold aT;omega)
  intro bb
  cases bb
  ·repeat' (first
 |simp only[go_sem,hF,hP,hZ,gA,qc,tX,jD,vN,yW,gv,e3]
 |(with_reducible first|refine bj fun hc=>?_|refine bk fun hc=>?_|refine bl (fun hc=>?_) fun hc=>?_)<;>(try simp only[hc,bs,↓reduceIte]at h)<;>try simp only[hc]
 |((with_reducible refine az hQ ?_);(try cases h);simp only[bt,bx,bY,bZ,go_sem,hF,hP,hZ,gA,qc,tX,jD,vN,yW,gv,e3];try exact cB)
 |(cases h;replace h:=hr;clear hr;(try simp only[bs,↓reduceIte]at h))
 | (cases h;done))
   refine Sem.oN hB [0,3,1,2] _ [(3, .ptr 0 0),(8, .ptr 1 0)] (by decide) (by simp) (by simp[kq,D.ct,D.bw,D.bg,D.ok,Tag.bw,Tag.ok,iW,jY,dQ,fh,jj,lY,wL,zp,jw,my,D.kb,D.fu,gC]) (by simp[mf,Tm.get,D.bw,D.ok]) H8
  ·have CC:oe (.bX 13 2 m (m+1)) (.int .i64 (m:Int)) 13=some (.ew 2 m (m*13)):=by simp [oe];omega
   have ae7 : ∀ r:List D,r.length=13→eH ((y.body.map aH).flatten++Qn) (m*13) r=(y.body.map aH).flatten++r:=fun r hr=>by
    unfold eH
    rw[List.take_left' ib,List.drop_eq_nil_of_le (by rw[zai,ib,hr];show m*13+13≤_;omega),zaA]
   have TC:=ae7 (gC nm) rfl
   have hle:m*13≤m*13:=zag _
   unfold Qn gC at TC
   repeat' (first
 |simp only[go_sem,hF,hP,hZ,gA,qc,tX,jD,vN,yW,gv,e3,CC,ib,TC,hle]
 |(with_reducible first|refine bj fun hc=>?_|refine bk fun hc=>?_|refine bl (fun hc=>?_) fun hc=>?_)<;>(try simp only[hc,bs,↓reduceIte]at h)<;>try simp only[hc]
 |((with_reducible refine az hQ ?_);(try cases h);simp only[bt,bx,bY,bZ,go_sem,hF,hP,hZ,gA,qc,tX,jD,vN,yW,gv,e3,CC,ib,TC,hle];try exact cB)
 |(cases h;replace h:=hr;clear hr;(try simp only[bs,↓reduceIte]at h))
 | (cases h;done))
   refine Sem.oN hB [0,3,1,2] _ [(3, .ptr 0 0),(8, .ptr 1 0)] (by decide) (by simp) (by simp[kq,D.ct,D.bw,D.bg,D.ok,Tag.bw,Tag.ok,iW,jY,dQ,fh,jj,lY,wL,zp,jw,my,D.kb,D.fu,gC]) (by simp[mf,Tm.get,D.bw,D.ok]) H8
theorem aai (hB:B.s = ⟨[],[]⟩) (hQ:gy 0 0 [(6,none)] (.bool true) ⟨[],[]⟩=Q) (sG:p.Right) (cV:p.size≤800000) (Dx:p.put ep=p) {c:UInt8} {r:aA} (D1:isName (c::r)=true) (FC:p.used (c::r)=false) (n:Int) :
 Sem Tryz.prog B 135 aad Q [(1, .int .i64 n),(2, .str (c::r)),(3, .ptr 0 0),(7, .ptr 1 0)] ⟨[bf p,bf (p.grown (c::r))],[]⟩:=by
 have⟨hF,hP,hZ,gA⟩:=bD
 have ho:p.iJ:=⟨nz sG.may (by omega),by omega⟩
 have J2:=W2 hB hQ sG cV Dx D1 FC n
 have Qq:=fun s=>H3 ho sG.may [97,c] s
 have U1:=fun s=>H3 ho sG.may [98,c] s
 have hn1:=fun s=>yV [97,c] s
 have sT:=fun s=>yV [98,c] s
 have Qp:=fun a=>I6 sG (nm:=c::r) a D1 FC
 have hgs:(p.grown (c::r)).size≤p.size+10:=by
  obtain⟨globals,procs⟩:=p
  have : ∀ l:List Pc,Pc.aM (l++ [k9 (c::r)])=Pc.aM l+Pc.aM [k9 (c::r)]:=fun l=>by
   induction l with
   |nil=>simp[Pc.aM]
   |cons f l ih=>simp only[zaJ,Pc.aM,ih];omega
  have h2:Pc.aM [k9 (c::r)]≤10:=by simp[Pc.aM,Pc.size,k9,Sm.aM]
  simp only[Pg.size,Pg.grown,this]
  omega
 obtain⟨G,hG⟩ : ∃ G,p.grown (c::r)=G:=⟨_,rfl⟩
 rw[hG]at Qp hgs ⊢
 have e1:List.take 1 (c::r) = [c]:=rfl
 simp only[e1]at Qp
 have s1:(1:Int)≤((r.length+1:Nat):Int):=by omega
 have s2:List.take (Int.toNat 1) (c::r) = [c]:=rfl
 have s3:mz .add (.str [97]) (.str [c])=some (.str [97,c]):=by simp[mz,jz,aT]
 have s4:mz .add (.str [98]) (.str [c])=some (.str [98,c]):=by simp[mz,jz,aT]
 refine Sem.fY ?_
 rcases zad (decide ((p.procs.length:Int)<16))with b1|b1
 case inr=>
  repeat' (first
 |simp only[go_sem,hF,hP,hZ,gA,b1]
 |(with_reducible first|refine bj fun hc=>?_|refine bk fun hc=>?_|refine bl (fun hc=>?_) fun hc=>?_)<;>(try simp only[hc,bs,↓reduceIte]at h)<;>try simp only[hc]
 |((with_reducible refine az hQ ?_);(try cases h);simp only[bt,bx,bY,bZ,go_sem,hF,hP,hZ,gA,b1];try exact cB)
 |(cases h;replace h:=hr;clear hr;(try simp only[bs,↓reduceIte]at h))
 |(cases h;done))
  refine Sem.re _ _ 1 0 (by rw[hB];exact im rfl) (by rw[hB];exact im rfl) ?_ ?_ (J2)
  ·(simp only[go_sem,hF,hP,hZ,gA];repeat' (first|exact Ok.out|with_reducible refine dZ ?_ ?_))
  ·(simp only[go_sem,hF,hP,hZ,gA];repeat' (first|exact Ok.out|with_reducible refine dZ ?_ ?_))
 rcases zad (p.used [97,c])with b2|b2
 ·repeat' (first
 |simp only[go_sem,hF,hP,hZ,gA,s1,s2,s3,s4,b1,b2]
 |(with_reducible refine CU (Qq _) ?_)
 |(with_reducible first|refine bj fun hc=>?_|refine bk fun hc=>?_|refine bl (fun hc=>?_) fun hc=>?_)<;>(try simp only[hc,bs,↓reduceIte]at h)<;>try simp only[hc]
 |((with_reducible refine az hQ ?_);(try cases h);simp only[bt,bx,bY,bZ,go_sem,hF,hP,hZ,gA,s1,s2,s3,s4,b1,b2];try exact cB)
 |(cases h;replace h:=hr;clear hr;(try simp only[bs,↓reduceIte]at h))
 |(cases h;done))
  refine Sem.re _ _ 1 0 (by rw[hB];exact im rfl) (by rw[hB];exact im rfl) ?_ ?_ (J2)
  ·(simp only[go_sem,hF,hP,hZ,gA];repeat' (first|exact Ok.out|with_reducible refine dZ ?_ ?_))
  ·(simp only[go_sem,hF,hP,hZ,gA];repeat' (first|exact Ok.out|with_reducible refine dZ ?_ ?_))
 rcases zad (p.used [98,c])with b3|b3
 ·repeat' (first
 |simp only[go_sem,hF,hP,hZ,gA,s1,s2,s3,s4,b1,b2,b3]
 |(with_reducible refine CU (Qq _) ?_)
 |(with_reducible refine CU (U1 _) ?_)
 |(with_reducible first|refine bj fun hc=>?_|refine bk fun hc=>?_|refine bl (fun hc=>?_) fun hc=>?_)<;>(try simp only[hc,bs,↓reduceIte]at h)<;>try simp only[hc]
 |((with_reducible refine az hQ ?_);(try cases h);simp only[bt,bx,bY,bZ,go_sem,hF,hP,hZ,gA,s1,s2,s3,s4,b1,b2,b3];try exact cB)
 |(cases h;replace h:=hr;clear hr;(try simp only[bs,↓reduceIte]at h))
 |(cases h;done))
  refine Sem.re _ _ 1 0 (by rw[hB];exact im rfl) (by rw[hB];exact im rfl) ?_ ?_ (J2)
  ·(simp only[go_sem,hF,hP,hZ,gA];repeat' (first|exact Ok.out|with_reducible refine dZ ?_ ?_))
  ·(simp only[go_sem,hF,hP,hZ,gA];repeat' (first|exact Ok.out|with_reducible refine dZ ?_ ?_))
 rcases zad (isName [97,c])with b4|b4
 case inr=>
  repeat' (first
 |simp only[go_sem,hF,hP,hZ,gA,s1,s2,s3,s4,b1,b2,b3,b4]
 |(with_reducible refine CU (Qq _) ?_)
 |(with_reducible refine CU (U1 _) ?_)
 |(with_reducible refine CU (hn1 _) ?_)
 |(with_reducible first|refine bj fun hc=>?_|refine bk fun hc=>?_|refine bl (fun hc=>?_) fun hc=>?_)<;>(try simp only[hc,bs,↓reduceIte]at h)<;>try simp only[hc]
 |((with_reducible refine az hQ ?_);(try cases h);simp only[bt,bx,bY,bZ,go_sem,hF,hP,hZ,gA,s1,s2,s3,s4,b1,b2,b3,b4];try exact cB)
 |(cases h;replace h:=hr;clear hr;(try simp only[bs,↓reduceIte]at h))
 |(cases h;done))
  refine Sem.re _ _ 1 0 (by rw[hB];exact im rfl) (by rw[hB];exact im rfl) ?_ ?_ (J2)
  ·(simp only[go_sem,hF,hP,hZ,gA];repeat' (first|exact Ok.out|with_reducible refine dZ ?_ ?_))
  ·(simp only[go_sem,hF,hP,hZ,gA];repeat' (first|exact Ok.out|with_reducible refine dZ ?_ ?_))
 rcases zad (isName [98,c])with b5|b5
 case inr=>
  repeat' (first
 |simp only[go_sem,hF,hP,hZ,gA,s1,s2,s3,s4,b1,b2,b3,b4,b5]
 |(with_reducible refine CU (Qq _) ?_)
 |(with_reducible refine CU (U1 _) ?_)
 |(with_reducible refine CU (hn1 _) ?_)
 |(with_reducible refine CU (sT _) ?_)
 |(with_reducible first|refine bj fun hc=>?_|refine bk fun hc=>?_|refine bl (fun hc=>?_) fun hc=>?_)<;>(try simp only[hc,bs,↓reduceIte]at h)<;>try simp only[hc]
 |((with_reducible refine az hQ ?_);(try cases h);simp only[bt,bx,bY,bZ,go_sem,hF,hP,hZ,gA,s1,s2,s3,s4,b1,b2,b3,b4,b5];try exact cB)
 |(cases h;replace h:=hr;clear hr;(try simp only[bs,↓reduceIte]at h))
 |(cases h;done))
  refine Sem.re _ _ 1 0 (by rw[hB];exact im rfl) (by rw[hB];exact im rfl) ?_ ?_ (J2)
  ·(simp only[go_sem,hF,hP,hZ,gA];repeat' (first|exact Ok.out|with_reducible refine dZ ?_ ?_))
  ·(simp only[go_sem,hF,hP,hZ,gA];repeat' (first|exact Ok.out|with_reducible refine dZ ?_ ?_))
 have hr:=Qp (by simpa using b1) b4 b5 b2 b3
 have Xg:G.iJ:=⟨nz hr.may (by omega),by omega⟩
 have hm:=fun s=>Cv Xg s
 have b6:(G.check.1==0)=true:=by rw[hr.check];rfl
 rw[b6]at hm
 repeat' (first
 |simp only[go_sem,hF,hP,hZ,gA,s1,s2,s3,s4,b1,b2,b3,b4,b5]
 |(with_reducible refine CU (Qq _) ?_)
 |(with_reducible refine CU (U1 _) ?_)
 |(with_reducible refine CU (hn1 _) ?_)
 |(with_reducible refine CU (sT _) ?_)
 |(with_reducible refine CU (hm _) ?_)
 |(with_reducible first|refine bj fun hc=>?_|refine bk fun hc=>?_|refine bl (fun hc=>?_) fun hc=>?_)<;>(try simp only[hc,bs,↓reduceIte]at h)<;>try simp only[hc]
 |((with_reducible refine az hQ ?_);(try cases h);simp only[bt,bx,bY,bZ,go_sem,hF,hP,hZ,gA,s1,s2,s3,s4,b1,b2,b3,b4,b5];try exact cB)
 |(cases h;replace h:=hr;clear hr;(try simp only[bs,↓reduceIte]at h))
 |(cases h;done))
 refine Sem.re _ _ 1 0 (by rw[hB];exact im rfl) (by rw[hB];exact im rfl) ?_ ?_ (J2)
 ·(simp only[go_sem,hF,hP,hZ,gA];repeat' (first|exact Ok.out|with_reducible refine dZ ?_ ?_))
 ·(simp only[go_sem,hF,hP,hZ,gA];repeat' (first|exact Ok.out|with_reducible refine dZ ?_ ?_))
end
def mL (c:UInt8) (r:aA):List D:= [.str (c::r), .slice .full 2 [[.str [97,c], .bool true]], .slice .full 1 [[.str [98,c]]], .slice .full 0 [], .slice .full 1 [[.str (c::r)]]]
theorem Fc (p:Pg) (n:Int) (nm:aA) (s:St):ay Tryz.prog 8 [.agg (bf p), .int .i64 n, .str nm] s (.bool true) s:=by
 refine ay.pure ?_ (by simp[D.bg,D.ok,fm]) rfl s
 have h1:=fun s=>Ql s
 have h2:=fun s=>ZQ p s
 unfold S0
 rcases zad (decide (p.zw≤20000))with hw|hw
 case inr=>
  simp only[hw]at h2
  refine ay.go fv.h rfl fun B Q hB hQ=>?_
  have⟨hF,hP,hZ,gA⟩:=bD
  repeat' (first
 |simp only[go_sem,hF,hP,hZ,gA]
 |(with_reducible refine CU (h1 _) ?_)
 |(with_reducible refine CU (h2 _) ?_)
 |(with_reducible first|refine bj fun hc=>?_|refine bk fun hc=>?_|refine bl (fun hc=>?_) fun hc=>?_)<;>(try simp only[hc,bs,↓reduceIte]at h)<;>try simp only[hc]
 |((with_reducible refine az hQ ?_);exact dv)
 |(cases h;replace h:=hr;clear hr;(try simp only[bs,↓reduceIte]at h))
 |(cases h;done))
 simp only[hw]at h2
 obtain⟨cV,acz⟩:=MO (of_decide_eq_true hw)
 have ho:p.iJ:=⟨acz,by omega⟩
 have h3:=fun s=>Cv ho s
 rcases zad (p.check.1==0)with b1|b1
 case inr=>
  refine ay.go fv.h rfl fun B Q hB hQ=>?_
  have⟨hF,hP,hZ,gA⟩:=bD
  repeat' (first
 |simp only[go_sem,hF,hP,hZ,gA,b1,zaB]
 |(with_reducible refine CU (h1 _) ?_)
 |(with_reducible refine CU (h2 _) ?_)
 |(with_reducible refine CU (h3 _) ?_)
 |(with_reducible first|refine bj fun hc=>?_|refine bk fun hc=>?_|refine bl (fun hc=>?_) fun hc=>?_)<;>(try simp only[hc,bs,↓reduceIte]at h)<;>try simp only[hc]
 |((with_reducible refine az hQ ?_);(try cases h);simp only[bt,bx,bY,bZ,go_sem,hF,hP,hZ,gA,b1,zaB];try exact cB)
 |(cases h;replace h:=hr;clear hr;(try simp only[bs,↓reduceIte]at h))
 |(cases h;done))
 have hr:=Tn b1
 have h4:=fun s=>yV nm s
 rcases zad (isName nm)with b2|b2
 case inr=>
  refine ay.go fv.h rfl fun B Q hB hQ=>?_
  have⟨hF,hP,hZ,gA⟩:=bD
  repeat' (first
 |simp only[go_sem,hF,hP,hZ,gA,b1,b2,zaB,zax]
 |(with_reducible refine CU (h1 _) ?_)
 |(with_reducible refine CU (h2 _) ?_)
 |(with_reducible refine CU (h3 _) ?_)
 |(with_reducible refine CU (h4 _) ?_)
 |(with_reducible first|refine bj fun hc=>?_|refine bk fun hc=>?_|refine bl (fun hc=>?_) fun hc=>?_)<;>(try simp only[hc,bs,↓reduceIte]at h)<;>try simp only[hc]
 |((with_reducible refine az hQ ?_);(try cases h);simp only[bt,bx,bY,bZ,go_sem,hF,hP,hZ,gA,b1,b2,zaB,zax];try exact cB)
 |(cases h;replace h:=hr;clear hr;(try simp only[bs,↓reduceIte]at h))
 |(cases h;done))
 have h5:=fun s=>H3 ho hr.may nm s
 rcases zad (p.used nm)with b3|b3
 ·refine ay.go fv.h rfl fun B Q hB hQ=> ?_
  have⟨hF,hP,hZ,gA⟩:=bD
  repeat' (first
 |simp only[go_sem,hF,hP,hZ,gA,b1,b2,b3,zaB,zax]
 |(with_reducible refine CU (h1 _) ?_)
 |(with_reducible refine CU (h2 _) ?_)
 |(with_reducible refine CU (h3 _) ?_)
 |(with_reducible refine CU (h4 _) ?_)
 |(with_reducible refine CU (h5 _) ?_)
 |(with_reducible first|refine bj fun hc=>?_|refine bk fun hc=>?_|refine bl (fun hc=>?_) fun hc=>?_)<;>(try simp only[hc,bs,↓reduceIte]at h)<;>try simp only[hc]
 |((with_reducible refine az hQ ?_);(try cases h);simp only[bt,bx,bY,bZ,go_sem,hF,hP,hZ,gA,b1,b2,b3,zaB,zax];try exact cB)
 |(cases h;replace h:=hr;clear hr;(try simp only[bs,↓reduceIte]at h))
 |(cases h;done))
 obtain⟨c,r,rfl⟩ : ∃ c r,nm=c::r:=by
  cases nm with
  |nil=>cases b2
  |cons c r=>exact⟨c,r,rfl⟩
 have Dx:p.put ep=p:=Tz fun v m e=>by
  obtain⟨i,hi⟩:=zbC m
  have h1:=Hp hr.may hi
  have h2:ep.id = -1:=rfl
  omega
 have dL:=H7 hr
 have h6:=fun s=>Pl (p:=p) (by omega) dL s
 rw[Dx]at h6
 refine ay.YC fv.h rfl fun B Q hB hQ=>?_
 have h9:=aai (B:=B) (Q:=Q) hB hQ hr (by omega) Dx b2 b3 n
 have⟨hF,hP,hZ,gA⟩:=bD
 refine Sem.fY ?_
 repeat' (first
 |simp only[go_sem,hF,hP,hZ,gA]
 |(with_reducible first|refine bj fun hc=>?_|refine bk fun hc=>?_|refine bl (fun hc=>?_) fun hc=>?_)<;>(try simp only[hc,bs,↓reduceIte]at h)<;>try simp only[hc]
 |((with_reducible refine az hQ ?_);exact dv)
 |(cases h;replace h:=hr;clear hr;(try simp only[bs,↓reduceIte]at h))
 |(cases h;done))
 refine Sem.fY ?_
 repeat' (first
 |simp only[go_sem,hF,hP,hZ,gA]
 |(with_reducible refine CU (h1 _) ?_)
 |(with_reducible first|refine bj fun hc=>?_|refine bk fun hc=>?_|refine bl (fun hc=>?_) fun hc=>?_)<;>(try simp only[hc,bs,↓reduceIte]at h)<;>try simp only[hc]
 |((with_reducible refine az hQ ?_);exact dv)
 |(cases h;replace h:=hr;clear hr;(try simp only[bs,↓reduceIte]at h))
 |(cases h;done))
 refine Sem.fY ?_
 repeat' (first
 |simp only[go_sem,hF,hP,hZ,gA]
 |(with_reducible refine CU (h2 _) ?_)
 |(with_reducible first|refine bj fun hc=>?_|refine bk fun hc=>?_|refine bl (fun hc=>?_) fun hc=>?_)<;>(try simp only[hc,bs,↓reduceIte]at h)<;>try simp only[hc]
 |((with_reducible refine az hQ ?_);exact dv)
 |(cases h;replace h:=hr;clear hr;(try simp only[bs,↓reduceIte]at h))
 |(cases h;done))
 refine Sem.fY ?_
 repeat' (first
 |simp only[go_sem,hF,hP,hZ,gA,b1,b2,b3,zaB,zax]
 |(with_reducible refine CU (h3 _) ?_)
 |(with_reducible refine CU (h4 _) ?_)
 |(with_reducible refine CU (h5 _) ?_)
 |(with_reducible first|refine bj fun hc=>?_|refine bk fun hc=>?_|refine bl (fun hc=>?_) fun hc=>?_)<;>(try simp only[hc,bs,↓reduceIte]at h)<;>try simp only[hc]
 |((with_reducible refine az hQ ?_);(try cases h);simp only[bt,bx,bY,bZ,go_sem,hF,hP,hZ,gA,b1,b2,b3,zaB,zax];try exact cB)
 |(cases h;replace h:=hr;clear hr;(try simp only[bs,↓reduceIte]at h))
 |(cases h;done))
 refine Sem.fY ?_
 repeat' (first
 |simp only[go_sem,hF,hP,hZ,gA]
 |(with_reducible refine CU (h6 _) ?_)
 |(with_reducible first|refine bj fun hc=>?_|refine bk fun hc=>?_|refine bl (fun hc=>?_) fun hc=>?_)<;>(try simp only[hc,bs,↓reduceIte]at h)<;>try simp only[hc]
 |((with_reducible refine az hQ ?_);exact dv)
 |(cases h;replace h:=hr;clear hr;(try simp only[bs,↓reduceIte]at h))
 |(cases h;done))
 have mW:0<p.procs.length:=zbf.2 dL
 have hlen:p.procs.length<1000000:=by have:=ho.procs.1;omega
 have s1:(1:Int)≤((r.length+1:Nat):Int):=by omega
 have s2:List.take (Int.toNat 1) (c::r) = [c]:=rfl
 have s3:mz .add (.str [97]) (.str [c])=some (.str [97,c]):=by simp[mz,jz,aT]
 have s4:mz .add (.str [98]) (.str [c])=some (.str [98,c]):=by simp[mz,jz,aT]
 have e3:p.procs.length - 1+1=p.procs.length:=by omega
 have gv:=fun(tg:Tag) (r a c:List D) (T:List (Option Nat))=>mq (s:=⟨[a,fI p.procs,c],T⟩) (o:=1) (g:=p.procs.length - 1) (len:=p.procs.length) (z:=5) (bytes:=112) (t:=tg) (r:=r) rfl (nr p.procs) (by unfold aT;omega)
 refine Sem.fY ?_
 repeat' (first
 |simp only[go_sem,hF,hP,hZ,gA,s1,s2,s3,s4,e3,gv]
 |(with_reducible first|refine bj fun hc=>?_|refine bk fun hc=>?_|refine bl (fun hc=>?_) fun hc=>?_)<;>(try simp only[hc,bs,↓reduceIte]at h)<;>try simp only[hc]
 |((with_reducible refine az hQ ?_);(try cases h);simp only[bt,bx,bY,bZ,go_sem,hF,hP,hZ,gA,s1,s2,s3,s4,e3,gv];try exact cB)
 |(cases h;replace h:=hr;clear hr;(try simp only[bs,↓reduceIte]at h))
 |(cases h;done))
 refine Sem.oN hB [0,2,1] [bf p,[.slice .shared 1 (p.globals.map encStr), .bX 5 2 p.procs.length (p.procs.length+1)], .int .i64 (p.procs.length:Int)::((p.procs.map bn).flatten++mL c r)] [(1, .int .i64 n),(2, .str (c::r)),(3, .ptr 0 0),(7, .ptr 1 0)] (by decide) (by simp)
  (by simp[kq,D.ct,D.bw,D.bg,D.ok,Tag.bw,Tag.ok,mr,oo,dQ,fh,wL,zp,lX,nP,D.kb,D.fu,mL]) (by simp[mf,Tm.get,D.bw,D.ok]) ?_
 have e1 : ∀ l:List aA,∀ o g rows,D.mE o g rows (l.map encStr)=l.map encStr:=fun l o g rows=>nQ _ _ _ _ (dd l)
 have e2 : ∀ l:List aA,∀ n m,D.iI n m (l.map encStr)=l.map encStr:=fun l n m=>rh _ _ _ (dd l)
 refine Sem.yz 2 p.procs.length 5 (p.procs.map bn++ [mL c r]) [(1, .int .i64 n),(2, .str (c::r)),(3, .ptr 0 0),(7, .ptr 1 0)] [bf p,bf (p.grown (c::r))] (by rw[hB];exact zar _) (by simp) ⟨1,p.procs.length+1, .inr ⟨1,_,rfl,rfl⟩⟩ (fun row hr=>?_) ?_ ?_ h9
 ·rcases zaw.1 hr with h | h
  ·obtain⟨f,_,rfl⟩:=zaH.1 h
   rfl
  ·rw [zbd]at h
   subst h;rfl
 ·simp only [go_sem]
  repeat' (first|exact Ok.out|with_reducible refine dZ ?_ ?_)
 ·have hl:p.procs.length+1=(p.procs.map bn++ [mL c r]).length:=by simp
  have f0:kJ 2 p.procs.length (p.procs.map bn++ [mL c r]) 2 0 (bf p)=bf p:=by unfold kJ;rw[mw _ _ _ _ (fm p),fU _ _ _ (fm p)]
  have f1:kJ 2 p.procs.length (p.procs.map bn++ [mL c r]) 2 0 [.slice .shared 1 (p.globals.map encStr), .bX 5 2 p.procs.length (p.procs.length+1)] = [.slice .shared 1 (p.globals.map encStr), .slice .shared 5 (p.procs.map bn++ [mL c r])]:=by
   have e3:D.ek 2 p.procs.length (p.procs.map bn++ [mL c r]) (.bX 5 2 p.procs.length (p.procs.length+1)) = .slice .shared 5 (p.procs.map bn++ [mL c r]):=by simp only[D.ek, ← hl,and_self,if_true]
   have e4:D.fg 2 0 (.slice .shared 5 (p.procs.map bn++ [mL c r])) = .slice .shared 5 (p.procs.map bn++ [mL c r]):=by
    refine Bo _ _ _ ?_
    simp[D.ok,Tag.ok,sJ,mL,D.bg,ql,D.fu]
   unfold kJ
   rw[D.gi,D.gi,e3,D.gi,D.eI,D.eI,e4,D.eI,D.ek,e1,D.fg,e2]
   rfl
  show fT [kJ 2 p.procs.length (p.procs.map bn++ [mL c r]) 2 0 (bf p),kJ 2 p.procs.length (p.procs.map bn++ [mL c r]) 2 0 [.slice .shared 1 (p.globals.map encStr), .bX 5 2 p.procs.length (p.procs.length+1)]] _
  rw[f0,f1]
  refine .cons (gw.refl _) (.cons ?_ .nil)
  show gw _ [.slice .shared 1 (p.globals.map encStr), .slice .shared 5 ((p.procs++ [k9 (c::r)]).map bn)]
  rw[zah]
  refine .cons (Wk.refl _) (.cons (Wk.rows (.append (.refl _) (.cons ?_ .nil))) .nil)
  exact .cons (Wk.refl _) (.cons (Wk.shared _ _ _) (.cons (Wk.shared _ _ _) (.cons (Wk.nil _ _ _) (.cons (Wk.shared _ _ _) .nil))))
end Go.Abs
namespace Go.Abs
open Go.RowKit Go.ChangeShapes Go.WideShapes
def Dz (w:World) (b o:Nat):Option Value:=
 match w.cell? ⟨b,o,none⟩with
 |some v=>if v.oneCell'=true then some v else none
 |none=>none
theorem J3 {w:World} (b o:Nat) (v:Value) (h:Dz w b o=some v):w.cell? ⟨b,o,none⟩=some v∧v.oneCell'=true:=by
 unfold Dz at h
 split at h
 ·split at h
  ·cases h;exact⟨‹_›, ‹_›⟩
  ·cases h
 ·cases h
def yX (w:World):Map:=⟨Dz w,fun _=>(0, .any),fun _=>none⟩
theorem Kept.sameAt {w w':World} (h:Kept w w') {p:MemPlace} (hp:p.block<w.heap.size):w.sameAt w' p:=by
 have hk:=h.1.2.2 p.block hp
 cases p with
 | cell b off=>
  simp only[MemPlace.block]at hk hp
  simp only[World.sameAt,World.cell?]
  split at hk
  ·rename_i c t fr c' t' fr' e e'
   rw[e,e']
   simp only[hk.2.2.2 off (fun f=>f)]
  ·rename_i es clock x6 aak e e'
   rw[e,e']
  ·rw[hk]
 | map b=>
  simp only[MemPlace.block]at hk hp
  simp only[World.sameAt]
  split at hk
  ·rename_i c t fr c' t' fr' e e'
   rw[e,e']
   obtain⟨rfl,rfl,hs,hc⟩:=hk
   have:c'=c:=by
    apply Array.ext_getElem?
    intro i
    exact hc i (fun f=>f)
   rw[this]
  ·rename_i es clock x6 aak e e'
   rcases hk with f|⟨rfl,rfl⟩
   ·exact f.elim
   ·rw[e,e']
  ·exact hk
section
variable {P:Program} {H:Type} {enc:TypeId×Value→H} {T:TypeId→Prop}
theorem CG (K:Kids P T) (hz : ∀ {t e:TypeId},T t→P.underlying t=some (.slice e)→0<P.cellsOf e) {W W':World} (hk:Kept W W') {sp:Nat→Bool} :
 ∀ {ts:List TypeId} {vs:List Value} {ds:List (DataW H)} {ps:List MemPlace},(∀ t∈ts,T t)→(∀ p∈ps,p.block<W.heap.size)→(∀ p∈ps,sp p.block=true)→
  DataW.TrodAll enc P W 0 (fun _=>true) true ts vs ds ps→DataW.TrodAll enc P W' 0 sp true ts vs ds ps
 | [],[],[],_,_,_,_,h=>h
 |t::ts,v::vs,d::ds,ps,hT,hF,hs,⟨p,q,⟨n,h1⟩,h2,e⟩=>by
  subst e
  refine⟨p,q,⟨n,DataW.trod_stays K hz (fun f=>by cases f) (hT t (zaD ..)) h1 (fun x hx=>hk.sameAt (hF x (zaP _ hx))) (fun x hx=>hs x (zaP _ hx))⟩, ?_,rfl⟩
  exact CG K hz hk (fun t ht=>hT t (zav _ ht)) (fun x hx=>hF x (za3 _ hx)) (fun x hx=>hs x (za3 _ hx)) h2
 | [],[],_::_,_,_,_,_,h=>h.elim
 | [],_::_,_,_,_,_,_,h=>h.elim
 |_::_,[],_,_,_,_,_,h=>h.elim
 |_::_,_::_,[],_,_,_,_,h=>h.elim
theorem TD (K:Kids P T) (hz : ∀ {t e:TypeId},T t→P.underlying t=some (.slice e)→0<P.cellsOf e) {f:Func} {s:ChangeSpec} {apart fresh handsOn again:Bool} {tb:TypeId} {W W':World} {args:Array Value} {ds gs:List (DataW H)} {before:List MemPlace}
 (hT : ∀ t∈f.params.toList,T t) (hb:P.underlying tb=some .bool) (hr:f.resultTypes = #[tb]) (CD:s.vars = []) (hW:DataW.Whole enc P f.params.toList s.vars apart W args.toList ds gs before)
 (xw:s.fn H (ds++gs) = {results:= [.lit (.bool true)],args:=ds}) (hk:Kept W W'):s.post enc P f apart fresh handsOn again W args (.bool true) W':=by
 have hW':=hW
 have hF : ∀ p∈before,p.block<W.heap.size:=fun p hp=>hW.lt p hp
 obtain⟨p,q,hA,hV,rfl,hfz,hnd⟩:=hW
 rw[CD]at hV
 obtain⟨rfl,rfl⟩:=trodVars_none hV
 simp only[zaA]at hF xw
 refine H6 (pa:=p) (pv:= []) hW' (fun b sp hd=>?_) (fun sp ra=>?_) (fun sp ra=>?_) rfl hk (ok_one hr rfl (okWide_bool_mk hb _))
 ·rw [zaA,xw,hr]
  exact trodAll_cons_mk (shut_bool hb _) trodAll_mk0
 ·rw [zaA,xw]
  simp only[zaA]at ra
  exact CG K hz hk hT hF ra hA
 ·rw [zaA,xw,CD]
  rfl
theorem W3 {f:FuncId} {args:List D} {fi:Array Value} {w:World} (h:dt P f args S0 fun d _=>d = .bool true) (hl:fi.size=args.length)
 (ha : ∀ (i:Nat) (d:D) (v:Value),args[i]? = some d→fi[i]? = some v→RD (yX w) S0 d v) (iM:MY w):Calls P f fi w fun e w'=>e = .returned (.bool true)∧Kept w w':=
 Qi (G:=Dz w) h J3 hl ha iM
end
end Go.Abs
namespace Go.Abs
set_option maxRecDepth 8000
open Go.Proofs
def CH (n:Int):List D:= [.int .i64 n]
theorem acA (n:Int):D.bg 0 0 (CH n)=true:=rfl
theorem aam (n m:Nat) (l:List Int):D.iI n m (l.map CH)=l.map CH:=ll acA n m l
attribute [go_sem] CH aam
def acB (op:Int):aA:=
 if op=5 then [42]else if op=6 then [47]else if op=7 then [37]else if op=8 then [43]else if op=9 then [45]else if op=10 then [60]else if op=11 then [60,61]
 else if op=12 then [62]else if op=13 then [62,61]else if op=14 then [61,61]else if op=15 then [33,61]else if op=16 then [38,38]else [124,124]
def ahX (op:Int):Int:=(Yx (acB op)).1
def Qr:Nat→List aA
 | 0=> []
 |n+1=>Qr n++ [[UInt8.ofNat (97+n)]]
end Go.Abs
namespace Go.Abs
open Go.RowKit Go.ChangeShapes Go.WideShapes
end Go.Abs
namespace Go.Abs
open Go.RowKit Go.ChangeShapes Go.WideShapes
def eB (W:World) (ds:List D) (cs:List Value):Prop:=ds.length=cs.length∧(∀ (i:Nat) (d:D) (v:Value),ds[i]? = some d→cs[i]? = some v→RD (yX W) S0 d v)∧∀ v∈cs,v.oneCell'=true
theorem eB.one {W:World} {d:D} {v:Value} (h:RD (yX W) S0 d v) (hv:v.oneCell'=true):eB W [d] [v]:=by
 refine⟨rfl,fun i d' v' h1 h2=>?_,fun u hu=>by simp at hu;subst hu;exact hv⟩
 cases i with
 |zero=>simp at h1 h2;subst h1 h2;exact h
 |succ i=>simp at h1
theorem eB.app {W:World} {ds lM:List D} {cs iF:List Value} (h:eB W ds cs) (h':eB W lM iF):eB W (ds++lM) (cs++iF):=by
 obtain⟨a1,a2,a3⟩:=h
 obtain⟨b1,b2,b3⟩:=h'
 refine⟨by simp[a1,b1],fun i d v h1 h2=>?_,fun v hv=>?_⟩
 ·by_cases hi:i<ds.length
  ·rw [zao hi]at h1
   rw[zao (by omega)]at h2
   exact a2 i d v h1 h2
  ·rw [zau (by omega)]at h1
   rw[zau (by omega), ← a1]at h2
   exact b2 _ d v h1 h2
 ·rcases zaw.1 hv with hv | hv
  ·exact a3 v hv
  ·exact b3 v hv
theorem eB.at {W:World} {ds lM:List D} {cs:List Value} {o n:Nat} (h:eB W ds ((cs.drop o).take n)) (h':eB W lM (cs.drop (o+n))):eB W (ds++lM) (cs.drop o):=by
 have e:cs.drop o=(cs.drop o).take n++cs.drop (o+n):=by rw[← List.drop_drop,List.take_append_drop]
 rw[e]
 exact h.app h'
theorem eB.end {W:World} {cs:List Value} {o:Nat} (h:cs.length=o):eB W [] (cs.drop o):=by
 rw[← h,List.drop_length]
 exact⟨rfl,fun i d v h=>by simp at h,fun v hv=>by cases hv⟩
section
variable {H:Type} {enc:TypeId×Value→H} {P:Program} {W:World} {sp:Nat→Bool}
def structOf (P:Program) (t:TypeId):List (TypeId×Nat):=
 match P.underlying t with
 |some (.struct fs)=>fs.toList.map fun f=>(f.type,f.offset)
 |_=> []
theorem kv {t:TypeId} {l:List (TypeId×Nat)} {fuel:Nat} {cs:List Value} {x:DataW H×List MemPlace} (h:structOf P t=l) (dL:l≠ []) (ht:DataW.trod enc P W 0 sp true fuel t cs=some x) :
 ∃ n,fuel=n+1∧cs.length=P.cellsOf t∧∀ (i:Nat) (f:TypeId×Nat),l[i]? = some f→∃ y,DataW.trod enc P W 0 sp true n f.1 ((cs.drop f.2).take (P.cellsOf f.1))=some y:=by
 unfold structOf at h
 split at h
 ·rename_i fs hu
  obtain⟨xs,n,e,_,hl,hlen,hf⟩:=DataW.trod_struct hu ht
  refine⟨n,e,hl,fun i f hi=>?_⟩
  subst h
  rw[zap,zaq]at hi
  obtain⟨g,hg,rfl⟩:=hi
  have oh:fs[i]? = some g:=by simpa using hg
  have hi:i<xs.length:=by rw[hlen];exact(zaN.1 oh).1
  exact⟨xs[i],by rw[hf i g oh,zak hi]⟩
 ·exact absurd h.symm dL
theorem Fe {t:TypeId} {l:List (TypeId×Nat)} (h:structOf P t=l) (dL:l≠ []) : ∃ fs,P.underlying t=some (.struct fs):=by
 unfold structOf at h
 split at h
 ·exact⟨_, ‹_›⟩
 ·exact absurd h.symm dL
theorem Aj {α:Type} {Q:Nat→α→Prop} : ∀ n,(∀ i,i<n→∃ y,Q i y)→∃ ys:List α,ys.length=n∧∀ i y,ys[i]? = some y→Q i y
 | 0,_=>⟨[],rfl,fun i y h=>by simp at h⟩
 | n+1,h=>by
  obtain⟨ys,h1,h2⟩:=Aj n fun i hi=>h i (by omega)
  obtain⟨y,hy⟩:=h n (by omega)
  refine⟨ys++ [y],by simp[h1],fun i z hz=>?_⟩
  by_cases hi:i<ys.length
  ·rw[zao hi]at hz;exact h2 i z hz
  ·rw [zau (by omega)]at hz
   have:i - ys.length=0:=by
    rcases Nat.eq_zero_or_pos (i - ys.length)with h|h
    ·exact h
    ·rw[List.getElem?_eq_none (by simp only[zal,zaE];omega)]at hz;cases hz
   rw[this]at hz
   simp at hz
   subst hz
   have:i=n:=by omega
   subst this
   exact hy
theorem nE {α:Type} (en:α→List D) (good:α→Prop) {z:Nat} {t e:TypeId} {fuel:Nat} {cs:List Value} {x:DataW H×List MemPlace} (ht:P.underlying t=some (.slice e)) (hz:P.cellsOf e=z) (hz0:0<z) (hen : ∀ y,(en y).length=z)
 (hel : ∀ n<fuel,∀ cs x,DataW.trod enc P W 0 sp true n e cs=some x→∃ y,eB W (en y) cs∧good y) (h:DataW.trod enc P W 0 sp true fuel t cs=some x) :
 ∃ ys:List α,eB W [.slice .shared z (ys.map en)] cs∧∀ y∈ys,good y:=by
 rcases DataW.trod_slice ht h with ⟨rfl,_⟩|⟨a,len,cap,elems,rest,n,hn,rfl,_,hb,hl,hm,hlen,ph,_,_⟩
 ·exact⟨[],eB.one (.ig _ _ _ rfl trivial) rfl,fun y hy=>by cases hy⟩
 ·by_cases h0:len=0
  ·subst h0
   exact⟨[],eB.one (.kR _ _ _) rfl,fun y hy=>by cases hy⟩
  ·obtain⟨ys,hys,rD⟩:=Aj (Q:=fun i y=>good y∧∃ iF,W.cells? 0 (a.add (i*z)) z=some iF∧eB W (en y) iF) len fun i hi=>by
    have hc:=ph i hi
    rw[zak (by omega),hz,zas]at hc
    obtain⟨iF,h1,h2⟩:=hc
    obtain⟨y,h3,h4⟩:=hel n (by omega) _ _ h2
    exact⟨y,h4,iF,h1,h3⟩
   have cell : ∀ i y,ys[i]? = some y→∀ (j:Nat) d,(en y)[j]? = some d→∃ v,W.cell? ((a.add (i*z)).add j)=some v∧RD (yX W) S0 d v∧v.oneCell'=true:=by
    intro i y hy j d hd
    obtain⟨_,iF,h1,h2,h3,h4⟩:=rD i y hy
    obtain⟨_,k1,k2⟩:=World.cells?_some h1
    have hj:j<z:=by rw[← hen y];exact(zae.1 hd).1
    have hv:iF[j]? = some iF[j]:=zak (by omega)
    exact⟨iF[j],by rw[k2 j hj,hv],h3 j d _ hd hv,h4 _ (List.getElem_mem _)⟩
   obtain⟨b,off,spot⟩:=a
   have acC:spot=none:=by
    have hy:ys[0]? = some (ys[0]'(by omega)):=zak (by omega)
    obtain⟨d,hd⟩ : ∃ d,(en (ys[0]'(by omega)))[0]? = some d:=⟨_,zak (show 0<(en (ys[0]'(by omega))).length by rw[hen];exact hz0)⟩
    obtain⟨v,hv,_⟩:=cell 0 _ hy 0 _ hd
    have:=World.cell?_spot hv
    simpa[Addr.add]using this
   subst acC
   have e:(ys.map en).length=len:=by simp[hys]
   have:=RD.slice (M:=yX W) (s:=S0) .shared z (ys.map en) b off cap (by omega) (fun row hr=>by obtain⟨y,_,rfl⟩:=zaH.1 hr;exact hen y)
    (fun i row j d h1 h2=>by
     rw[zap,zaq]at h1
     obtain⟨y,h1,rfl⟩:=h1
     obtain⟨v,hv,_,h4⟩:=cell i y h1 j d h2
     rw[add_plain,add_plain]at hv
     refine⟨v, ?_⟩
     show Dz W b (off+(i*z+j))=_
     unfold Dz
     rw[show off+(i*z+j)=off+i*z+j by omega,hv]
     simp[h4])
    (fun i row j d u h1 h2 hu=>by
     rw[zap,zaq]at h1
     obtain⟨y,h1,rfl⟩:=h1
     obtain⟨v,hv,h3,h4⟩:=cell i y h1 j d h2
     rw[add_plain,add_plain]at hv
     obtain⟨hu,_⟩:=J3 _ _ _ hu
     rw[show off+(i*z+j)=off+i*z+j by omega,hv]at hu
     cases hu
     exact h3) trivial
   rw[e]at this
   refine⟨ys,eB.one this rfl,fun y hy=>?_⟩
   obtain⟨i,hi⟩:=zbC hy
   exact(rD i y hi).1
theorem CI {t:TypeId} {fuel:Nat} {cs:List Value} {x:DataW H×List MemPlace} (ht:P.underlying t=some (.int .i64)) (h:DataW.trod enc P W 0 sp true fuel t cs=some x) : ∃ n:Int,eB W [.int .i64 n] cs∧n≤9223372036854775807∧ -9223372036854775808≤n:=by
 obtain⟨n,rfl,_,hw⟩:=DataW.trod_int ht h
 simp[Lit.wf,IntKind.min,IntKind.max,IntKind.signed,IntKind.bits]at hw
 exact⟨n,eB.one (.int _ _) rfl,by omega,by omega⟩
theorem DA {t:TypeId} {fuel:Nat} {cs:List Value} {x:DataW H×List MemPlace} (ht:P.underlying t=some .bool) (h:DataW.trod enc P W 0 sp true fuel t cs=some x) : ∃ b:Bool,eB W [.bool b] cs:=by
 obtain⟨n,rfl,_⟩:=DataW.trod_bool ht h
 exact⟨n,eB.one (.bool _) rfl⟩
theorem s7 {t:TypeId} {fuel:Nat} {cs:List Value} {x:DataW H×List MemPlace} (ht:P.underlying t=some .string) (h:DataW.trod enc P W 0 sp true fuel t cs=some x) : ∃ s:aA,eB W (encStr s) cs∧s.length≤maxLen:=by
 obtain⟨s,rfl,_,hm⟩:=DataW.trod_string ht h
 obtain⟨⟨l⟩⟩:=s
 exact⟨l,eB.one (.str l) rfl,hm⟩
theorem acD {tE tI tN tS tK:TypeId} (hE:structOf P tE = [(tI,0),(tN,1),(tS,2),(tK,3)]) (hEc:P.cellsOf tE=4) (hI:P.underlying tI=some (.int .i64)) (hN:P.underlying tN=some (.int .i64)) (hS:P.underlying tS=some .string) (hK:P.underlying tK=some (.slice tE))
 (cI:P.cellsOf tI=1) (cN:P.cellsOf tN=1) (cS:P.cellsOf tS=1) (cK:P.cellsOf tK=1) :
 ∀ (fuel:Nat) (cs:List Value) (x:DataW H×List MemPlace),DataW.trod enc P W 0 sp true fuel tE cs=some x→∃ y:Ex,eB W (bA y) cs∧y.pQ:=by
 intro fuel
 induction fuel using Nat.strongRecOn with
 | _ fuel ih=>
  intro cs x h
  obtain⟨n,rfl,hl,hf⟩:=kv hE (by simp) h
  obtain⟨y0,h0⟩:=hf 0 _ rfl
  obtain⟨y1,h1⟩:=hf 1 _ rfl
  obtain⟨y2,h2⟩:=hf 2 _ rfl
  obtain⟨y3,h3⟩:=hf 3 _ rfl
  dsimp only at h0 h1 h2 h3
  rw[cI]at h0
  rw[cN]at h1
  rw[cS]at h2
  rw[cK]at h3
  obtain⟨op,r0,_⟩:=CI hI h0
  obtain⟨m,r1,hm,_⟩:=CI hN h1
  obtain⟨s,r2,_⟩:=s7 hS h2
  obtain⟨ks,r3,hg⟩:=nE (W:=W) bA Ex.pQ hK hEc (by decide) Uf (fun k hk cs x hx=>ih k (by omega) cs x hx) h3
  refine⟨⟨op,m,s,ks⟩, ?_,hm, ?_⟩
  ·have:=r0.at (r1.at (r2.at (r3.at (eB.end (by rw [hl,hEc])))))
   rw[fO]
   simpa[encStr]using this
  ·clear r3
   induction ks with
   |nil=>exact trivial
   |cons k ks ihk=>exact⟨hg k (by simp),ihk fun y hy=>hg y (by simp[hy])⟩
theorem eB.agg {ds:List D} {v:Value} (h:eB W ds v.cells.toList) (hv : ∃ vs,v = .agg vs):RD (yX W) S0 (.agg ds) v:=by
 obtain⟨vs,rfl⟩:=hv
 obtain⟨h1,h2,h3⟩:=h
 have e:(Value.agg vs).cells=vs:=rfl
 rw[e]at h1 h2 h3
 refine .agg ds vs (by simpa using h1) (fun v hv=>h3 v (by simpa using hv)) fun i d v hd hv=>h2 i d v hd (by simpa using hv)
end
end Go.Abs
namespace Go.Abs
open Go.Proofs Go.RowKit Go.ChangeShapes Go.WideShapes
section
variable {H:Type} {enc:TypeId×Value→H} {W:World} {sp:Nat→Bool}
theorem Qs (fuel:Nat) (cs:List Value) (x:DataW H×List MemPlace) (h:DataW.trod enc Tryz.prog W 0 sp true fuel 50 cs=some x) : ∃ y:Ex,eB W (bA y) cs∧y.pQ:=
 acD (tE:=50) (tI:=3) (tN:=2) (tS:=9) (tK:=48) (by kernel_rfl) (by kernel_rfl) (by kernel_rfl) (by kernel_rfl) (by kernel_rfl) (by kernel_rfl) (by kernel_rfl) (by kernel_rfl) (by kernel_rfl) (by kernel_rfl) _ _ _ h
theorem W4:Tryz.prog.underlying 22=some (.slice 9):=by kernel_rfl
theorem vX:Tryz.prog.underlying 9=some .string:=by kernel_rfl
theorem Qt:Tryz.prog.underlying 3=some (.int .i64):=by kernel_rfl
theorem DB:Tryz.prog.underlying 4=some .bool:=by kernel_rfl
theorem yY:Tryz.prog.cellsOf 9=1:=by kernel_rfl
theorem aaq:Tryz.prog.cellsOf 3=1:=by kernel_rfl
theorem DC:Tryz.prog.cellsOf 4=1:=by kernel_rfl
theorem DD:Tryz.prog.cellsOf 22=1:=by kernel_rfl
theorem U2:Tryz.prog.cellsOf 50=4:=by kernel_rfl
theorem xc {fuel:Nat} {cs:List Value} {x:DataW H×List MemPlace} (h:DataW.trod enc Tryz.prog W 0 sp true fuel 22 cs=some x) : ∃ l:List aA,eB W [.slice .shared 1 (l.map encStr)] cs:=by
 obtain⟨l,h,_⟩:=nE (W:=W) encStr (fun _=>True) W4 yY (by decide) (fun _=>rfl) (fun k hk cs x hx=>by
  obtain⟨s,hs,_⟩:=s7 vX hx
  exact⟨s,hs,trivial⟩) h
 exact⟨l,h⟩
theorem aar {fuel:Nat} {cs:List Value} {x:DataW H×List MemPlace} (h:DataW.trod enc Tryz.prog W 0 sp true fuel 42 cs=some x) : ∃ y:Pm,eB W (df y) cs:=by
 obtain⟨n,rfl,hl,hf⟩:=kv (l:= [(9,0),(4,1)]) (by kernel_rfl) (by simp) h
 have hc:Tryz.prog.cellsOf 42=2:=by kernel_rfl
 obtain⟨y0,h0⟩:=hf 0 _ rfl
 obtain⟨y1,h1⟩:=hf 1 _ rfl
 dsimp only at h0 h1
 rw[yY]at h0
 rw[DC]at h1
 obtain⟨s,r0,_⟩:=s7 vX h0
 obtain⟨b,r1⟩:=DA DB h1
 refine⟨⟨s,b⟩, ?_⟩
 have:=r0.at (r1.at (eB.end (by rw[hl,hc])))
 simpa[encStr,df]using this
theorem aas {fuel:Nat} {cs:List Value} {x:DataW H×List MemPlace} (h:DataW.trod enc Tryz.prog W 0 sp true fuel 123 cs=some x) : ∃ y:Ar,eB W (dz y) cs∧y.x.pQ:=by
 obtain⟨n,rfl,hl,hf⟩:=kv (l:= [(4,0),(9,1),(50,2)]) (by kernel_rfl) (by simp) h
 have hc:Tryz.prog.cellsOf 123=6:=by kernel_rfl
 obtain⟨y0,h0⟩:=hf 0 _ rfl
 obtain⟨y1,h1⟩:=hf 1 _ rfl
 obtain⟨y2,h2⟩:=hf 2 _ rfl
 dsimp only at h0 h1 h2
 rw[DC]at h0
 rw[yY]at h1
 rw[U2]at h2
 obtain⟨b,r0⟩:=DA DB h0
 obtain⟨s,r1,_⟩:=s7 vX h1
 obtain⟨e,r2,hr⟩:=Qs _ _ _ h2
 refine⟨⟨b,s,e⟩, ?_,hr⟩
 have:=r0.at (r1.at (r2.at (eB.end (by rw[hl,hc]))))
 rw[fO]at this
 simpa[encStr,dz]using this
theorem xd : ∀ {l:List Sm},(∀ s∈l,s.pQ)→Sm.uM l
 | [],_=>trivial
 |s::l,h=>⟨h s (zaD ..),xd fun t m=>h t (zav _ m)⟩
theorem aat : ∀ (fuel:Nat) (cs:List Value) (x:DataW H×List MemPlace),DataW.trod enc Tryz.prog W 0 sp true fuel 53 cs=some x→∃ y:Sm,eB W (aH y) cs∧y.pQ:=by
 intro fuel
 induction fuel using Nat.strongRecOn with
 |_ fuel ih=>
  intro cs x h
  obtain⟨n,rfl,hl,hf⟩:=kv (l:= [(3,0),(3,1),(22,2),(9,3),(9,4),(50,5),(4,9),(51,10),(44,11),(44,12)]) (by kernel_rfl) (by simp) h
  have hc:Tryz.prog.cellsOf 53=13:=by kernel_rfl
  have ca:Tryz.prog.cellsOf 51=1:=by kernel_rfl
  have iF:Tryz.prog.cellsOf 44=1:=by kernel_rfl
  have ua:Tryz.prog.underlying 51=some (.slice 123):=by kernel_rfl
  have us:Tryz.prog.underlying 44=some (.slice 53):=by kernel_rfl
  have ca6:Tryz.prog.cellsOf 123=6:=by kernel_rfl
  obtain⟨y0,h0⟩:=hf 0 _ rfl
  obtain⟨y1,h1⟩:=hf 1 _ rfl
  obtain⟨y2,h2⟩:=hf 2 _ rfl
  obtain⟨y3,h3⟩:=hf 3 _ rfl
  obtain⟨y4,h4⟩:=hf 4 _ rfl
  obtain⟨y5,h5⟩:=hf 5 _ rfl
  obtain⟨y6,h6⟩:=hf 6 _ rfl
  obtain⟨y7,h7⟩:=hf 7 _ rfl
  obtain⟨y8,h8⟩:=hf 8 _ rfl
  obtain⟨y9,h9⟩:=hf 9 _ rfl
  dsimp only at h0 h1 h2 h3 h4 h5 h6 h7 h8 h9
  rw[aaq]at h0 h1
  rw[DD]at h2
  rw[yY]at h3 h4
  rw[U2]at h5
  rw[DC]at h6
  rw[ca]at h7
  rw[iF]at h8 h9
  obtain⟨id,r0,_⟩:=CI Qt h0
  obtain⟨kind,r1,_⟩:=CI Qt h1
  obtain⟨labels,r2⟩:=xc h2
  obtain⟨name,r3,_⟩:=s7 vX h3
  obtain⟨proc,r4,_⟩:=s7 vX h4
  obtain⟨e,r5,hr⟩:=Qs _ _ _ h5
  obtain⟨b,r6⟩:=DA DB h6
  obtain⟨args,r7,ha⟩:=nE (W:=W) dz (fun a=>a.x.pQ) ua ca6 (by decide) (fun _=>rfl) (fun k hk cs x hx=>aas hx) h7
  obtain⟨aV,r8,ht⟩:=nE (W:=W) aH Sm.pQ us hc (by decide) Fj (fun k hk cs x hx=>ih k (by omega) cs x hx) h8
  obtain⟨aN,r9,he⟩:=nE (W:=W) aH Sm.pQ us hc (by decide) Fj (fun k hk cs x hx=>ih k (by omega) cs x hx) h9
  refine⟨⟨id,kind,labels,name,proc,e,b,args,aV,aN⟩, ?_,hr,ha,xd ht,xd he⟩
  have:=r0.at (r1.at (r2.at (r3.at (r4.at (r5.at (r6.at (r7.at (r8.at (r9.at (eB.end (by rw[hl,hc])))))))))))
  rw[fO]at this
  rw[bU]
  simpa[encStr]using this
theorem aau {fuel:Nat} {cs:List Value} {x:DataW H×List MemPlace} (h:DataW.trod enc Tryz.prog W 0 sp true fuel 46 cs=some x) : ∃ y:Pc,eB W (bn y) cs∧Sm.uM y.body:=by
 obtain⟨n,rfl,hl,hf⟩:=kv (l:= [(9,0),(43,1),(22,2),(44,3),(22,4)]) (by kernel_rfl) (by simp) h
 have hc:Tryz.prog.cellsOf 46=5:=by kernel_rfl
 have cp:Tryz.prog.cellsOf 43=1:=by kernel_rfl
 have iF:Tryz.prog.cellsOf 44=1:=by kernel_rfl
 have up:Tryz.prog.underlying 43=some (.slice 42):=by kernel_rfl
 have us:Tryz.prog.underlying 44=some (.slice 53):=by kernel_rfl
 have cp2:Tryz.prog.cellsOf 42=2:=by kernel_rfl
 have ae9:Tryz.prog.cellsOf 53=13:=by kernel_rfl
 obtain⟨y0,h0⟩:=hf 0 _ rfl
 obtain⟨y1,h1⟩:=hf 1 _ rfl
 obtain⟨y2,h2⟩:=hf 2 _ rfl
 obtain⟨y3,h3⟩:=hf 3 _ rfl
 obtain⟨y4,h4⟩:=hf 4 _ rfl
 dsimp only at h0 h1 h2 h3 h4
 rw[yY]at h0
 rw[cp]at h1
 rw[DD]at h2 h4
 rw[iF]at h3
 obtain⟨name,r0,_⟩:=s7 vX h0
 obtain⟨ps,r1,_⟩:=nE (W:=W) df (fun _=>True) up cp2 (by decide) (fun _=>rfl) (fun k hk cs x hx=>by
  obtain⟨y,hy⟩:=aar hx
  exact⟨y,hy,trivial⟩) h1
 obtain⟨vars,r2⟩:=xc h2
 obtain⟨body,r3,hb⟩:=nE (W:=W) aH Sm.pQ us ae9 (by decide) Fj (fun k hk cs x hx=>aat k cs x hx) h3
 obtain⟨fin,r4⟩:=xc h4
 refine⟨⟨name,ps,vars,body,fin⟩, ?_,xd hb⟩
 have:=r0.at (r1.at (r2.at (r3.at (r4.at (eB.end (by rw[hl,hc]))))))
 simpa[encStr,bn]using this
theorem aav {fuel:Nat} {cs:List Value} {x:DataW H×List MemPlace} (h:DataW.trod enc Tryz.prog W 0 sp true fuel 25 cs=some x) : ∃ y:Pg,eB W (bf y) cs∧y.pQ:=by
 obtain⟨n,rfl,hl,hf⟩:=kv (l:= [(22,0),(23,1)]) (by kernel_rfl) (by simp) h
 have hc:Tryz.prog.cellsOf 25=2:=by kernel_rfl
 have cp:Tryz.prog.cellsOf 23=1:=by kernel_rfl
 have up:Tryz.prog.underlying 23=some (.slice 46):=by kernel_rfl
 have cp5:Tryz.prog.cellsOf 46=5:=by kernel_rfl
 obtain⟨y0,h0⟩:=hf 0 _ rfl
 obtain⟨y1,h1⟩:=hf 1 _ rfl
 dsimp only at h0 h1
 rw[DD]at h0
 rw[cp]at h1
 obtain⟨globals,r0⟩:=xc h0
 obtain⟨procs,r1,hp⟩:=nE (W:=W) bn (fun f=>Sm.uM f.body) up cp5 (by decide) (fun _=>rfl) (fun k hk cs x hx=>aau hx) h1
 refine⟨⟨globals,procs⟩, ?_,hp⟩
 have:=r0.at (r1.at (eB.end (by rw[hl,hc])))
 simpa[bf]using this
end
end Go.Abs
namespace Go.Abs
open Go.Proofs Go.ChangeShapes Go.WideShapes Go.ChangeAt Go.RowKit
theorem yZ {H:Type} {enc:TypeId×Value→H} {P:Program} {W:World} {sp:Nat→Bool} {t:TypeId} {ts:List TypeId} {ps:List MemPlace} : ∀ {l:List Value} {ds:List (DataW H)},DataW.TrodAll enc P W 0 sp true (t::ts) l ds ps→
 ∃ v l' d lM p q,l=v::l'∧ds=d::lM∧DataW.Trod enc P W 0 sp true t v d p∧DataW.TrodAll enc P W 0 sp true ts l' lM q
 |v::l,d::ds,⟨p,q,h1,h2,e⟩=>⟨v,l,d,ds,p,q,rfl,rfl,h1,h2⟩
 | [],[],h=>h.elim
 | [],_::_,h=>h.elim
 |_::_,[],h=>h.elim
theorem TE {H:Type} {enc:TypeId×Value→H} {P:Program} {W:World} {sp:Nat→Bool} {ps:List MemPlace} : ∀ {l:List Value} {ds:List (DataW H)},DataW.TrodAll enc P W 0 sp true [] l ds ps→l = []∧ds = []
 | [],[],_=>⟨rfl,rfl⟩
 | [],_::_,h=>h.elim
 |_::_,ds,h=>by cases ds<;>exact h.elim
end Go.Abs
