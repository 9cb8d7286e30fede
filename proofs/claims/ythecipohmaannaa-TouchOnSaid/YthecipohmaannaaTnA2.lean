/-
  What is proved here: part 2 of the road to the claim (Sl1, MirFlat2, Sl2, TMay1, TMay2, RefMay3, RefMay4, TMay3, TMay4, MayFine, MayEq, Nm1, Nm2, Nm3, MayEq2, Tree1, Tree2, Sc1, Sc2, Sc3, ScP, Sc4, Rng, FineM, Sc5, Ar1, Ar2, Ar3, Srt1, Shelf, SortR, SrtP, Tc1, Tc2, Tc3, Bsl, Tc4, Tc5, Tc6, Tc7, ScPr, ToP, Full1, Fits1, Fits2).
  No conditions.
-/
import Derived.Test.YthecipohmaannaaTnA1
import Derived.Shelf.Small.Bits
import Derived.Shelf.Strconv.Itoa0
import Derived.Shelf.Sort.Plain
import Derived.Shelf.Slices.Turned
import Derived.Shelf.Slices.CompactS
import Derived.Shelf.Slices.Cells
import Derived.Shelf.Slices.In.SortNone
import Derived.Test.YthecipohmaannaaProg
import Derived.Sort.Walk0

set_option linter.unusedSimpArgs false
set_option linter.unusedVariables false

/-! Sl1 -/

namespace Go.Abs
set_option maxRecDepth 8000
open Go.Proofs
def jM (x:ax) (k:Int):List ax→Int
 | []=> -1
 | s::l=>if x==s then k else jM x (k+1) l
def c7 (l:List ax) (x:ax):Bool:=decide (jM x 0 l≥0)
def iX {α:Type} (b:α→Bool) (k:Int):List α→Int
 | []=> -1
 | s::l=>if b s then k else iX b (k+1) l
theorem BK (x:ax) : ∀ (l:List ax) (k:Int),0≤k→(jM x k l≥0↔x∈l)
 | [],k,h=>by simp [jM]
 | s::l,k,h=>by
  by_cases e:x=s
  ·simp [jM,e];omega
  ·have e':(x==s)=false:=by simp [e]
   simp only [jM,e',Bool.false_eq_true,if_false,List.mem_cons,e,false_or]
   exact BK x l (k+1) (by omega)
theorem eH (l:List ax) (x:ax):c7 l x=true↔x∈l:=by
 simp only [c7,decide_eq_true_eq];exact BK x l 0 (Int.le_refl 0)
theorem xh {α:Type} (b:α→Bool) : ∀ (l:List α) (k:Int),0≤k→(iX b k l≥0↔l.any b=true)
 | [],k,h=>by simp [iX]
 | s::l,k,h=>by
  by_cases e:b s=true
  ·simp [iX,e];omega
  ·have e':b s=false:=by simpa using e
   simp only [iX,e',Bool.false_eq_true,if_false,List.any_cons,Bool.or_eq_true,false_or]
   exact xh b l (k+1) (by omega)
theorem BL {l:List ax} (hl:l.length<4611686018427387904) (x:ax) (s:St):aH Try.prog fy [.slice .shared 1 (l.map encStr), .str x] s (.int .i64 (jM x 0 l)) s:=by
 refine aH.pure ?_ (by simp [D.bG,D.ok,Tag.ok,er]) rfl s
 generalize h:jM x 0 l=p
 unfold S0
 refine aH.go pz rfl fun B Q hB hQ=> ?_
 have⟨hD,hF,hJ,hP⟩:=cf
 repeat' (first
 | simp only [go_sem,hD,hF,hJ,hP]
 | (with_reducible first | refine cq fun hc=> ?_ | refine cr fun hc=> ?_ | refine ct (fun hc=> ?_) fun hc=> ?_) <;> (try simp only [hc,bs, ↓reduceIte]at h) <;> try simp only [hc]
 | (with_reducible refine aL hQ ?_;(try cases h);simp only [aE,aF,dj,dk,go_sem,hD,hF,hJ,hP];repeat' (first | exact Ok.out | with_reducible refine aV ?_ ?_ | (simp;done))))
 refine dM 0 0 (bx.ind (ι:=List ax×Nat) (fun i=>l.drop i.2=i.1∧jM x (i.2:Int) i.1=p) (fun i=>i.1.length)
  (fun i=> [(0, .slice .shared 1 (l.map encStr)),(1, .str x),(7, .int .i64 (l.length:Int)),(8, .int .i64 (i.2:Int))]) (fun i=>⟨[],[]⟩) ?_ (l,0) ⟨rfl,h⟩)
 rintro⟨rest,k⟩ ⟨h1,h⟩ IH
 dsimp only at h1 h
 cases rest with
 | nil=>
  have hD:=drop_nil h1
  simp only [jM]at h
  repeat' (first
 | simp only [go_sem,hD,hF,hJ,hP]
 | (with_reducible first | refine cq fun hc=> ?_ | refine cr fun hc=> ?_ | refine ct (fun hc=> ?_) fun hc=> ?_) <;> (try simp only [hc,bs, ↓reduceIte]at h) <;> try simp only [hc]
 | (with_reducible refine aL hQ ?_;(try cases h);simp only [aE,aF,dj,dk,go_sem,hD,hF,hJ,hP];repeat' (first | exact Ok.out | with_reducible refine aV ?_ ?_ | (simp;done))))
 | cons a rest=>
  obtain⟨hF,g2,hD,g4⟩:=drop_cons h1
  have bY:k<4611686018427387904:=by omega
  simp only [jM]at h
  repeat' (first
 | simp only [go_sem,hD,hF,hJ,hP]
 | (with_reducible first | refine cq fun hc=> ?_ | refine cr fun hc=> ?_ | refine ct (fun hc=> ?_) fun hc=> ?_) <;> (try simp only [hc,bs, ↓reduceIte]at h) <;> try simp only [hc]
 | (with_reducible refine aL hQ ?_;(try cases h);simp only [aE,aF,dj,dk,go_sem,hD,hF,hJ,hP];repeat' (first | exact Ok.out | with_reducible refine aV ?_ ?_ | (simp;done))))
  refine ep 0 0 ?_ ?_ (IH (rest,k+1) ⟨g2,h⟩ (Nat.lt_succ_self _))
  ·(simp only [go_sem,hD,hF,hJ,hP,aQ bY];try exact bQ)
  ·(simp only [go_sem,hD,hF,hJ,hP,aQ bY];try exact bQ)
theorem wc {l:List ax} (hl:l.length<4611686018427387904) (x:ax) (s:St):aH Try.prog bJ [.slice .shared 1 (l.map encStr), .str x] s (.bool (c7 l x)) s:=by
 refine aH.pure ?_ (by simp [D.bG,D.ok,Tag.ok,er]) rfl s
 have hi:=fun s=>BL hl x s
 unfold S0
 refine aH.go oj rfl fun B Q hB hQ=> ?_
 have⟨hD,hF,hJ,hP⟩:=cf
 repeat' (first
 | simp only [go_sem,hD,hF,hJ,hP,c7]
 | (with_reducible refine CU (hi _) ?_)
 | (with_reducible first | refine cq fun hc=> ?_ | refine cr fun hc=> ?_ | refine ct (fun hc=> ?_) fun hc=> ?_) <;> (try simp only [hc,bs, ↓reduceIte]at h) <;> try simp only [hc]
 | (with_reducible refine aL hQ ?_;simp only [aE,aF,dj,dk,go_sem,hD,hF,hJ,hP,c7];repeat' (first | exact Ok.out | with_reducible refine aV ?_ ?_ | (simp;done))))
theorem aH.F9 {P:Program} {f:Nat} {d d':D} {r:List D} {s s':St} {x:D} (h:aH P f (d'::r) s x s') (hw:Wk d d'):aH P f (d::r) s x s':=cQ.wV (.cons hw (jk.refl r)) h
theorem gI {l:List ax} (hl:l.length<4611686018427387904) (x:ax) (g:Tag) (s:St):aH Try.prog bJ [.slice g 1 (l.map encStr), .str x] s (.bool (c7 l x)) s:=
 (wc hl x s).F9 (Wk.shared _ _ _)
theorem Ae (x:ax) (z:Nat) (g:Tag) (s:St):aH Try.prog bJ [.slice g z [], .str x] s (.bool false) s:=
 (wc (l:= []) (by simp) x s).F9 (Wk.nil _ _ _)
theorem tf {l:List ax} (hl:l.length<4611686018427387904) {f:Nat} {row:List D} {b:ax→Bool} (ox:D.bG 0 0 row=true) (he:enters Try.prog f=true)
 (hb : ∀ x∈l,aH Try.prog f ([.str x]++ [.ptr 0 0]) ⟨[row],[]⟩ (.bool (b x)) ⟨[row],[]⟩) :
 aH Try.prog gH [.slice .shared 1 (l.map encStr), .ez f [.ptr 0 0]] ⟨[row],[]⟩ (.int .i64 (iX b 0 l)) ⟨[row],[]⟩:=by
 generalize h:iX b 0 l=p
 have k1 : ∀ n m,D.e8 n m row=row:=fun n m=>fw n m _ ox
 refine aH.go nU rfl fun B Q hB hQ=> ?_
 have⟨hD,hF,hJ,hP⟩:=cf
 repeat' (first
 | simp only [go_sem,hD,hF,hJ,hP,k1]
 | (with_reducible first | refine cq fun hc=> ?_ | refine cr fun hc=> ?_ | refine ct (fun hc=> ?_) fun hc=> ?_) <;> (try simp only [hc,bs, ↓reduceIte]at h) <;> try simp only [hc]
 | (with_reducible refine aL hQ ?_;(try cases h);simp only [aE,aF,dj,dk,go_sem,hD,hF,hJ,hP,k1];repeat' (first | exact Ok.out | with_reducible refine aV ?_ ?_ | (simp;done))))
 refine ep 1 0 ?_ ?_ (bx.ind (ι:=List ax×Nat) (fun i=>l.drop i.2=i.1∧iX b (i.2:Int) i.1=p) (fun i=>i.1.length)
  (fun i=> [(0, .slice .shared 1 (l.map encStr)),(1, .ez f [.ptr 0 0]),(7, .int .i64 (l.length:Int)),(8, .int .i64 (i.2:Int))]) (fun i=>⟨[row],[]⟩) ?_ (l,0) ⟨rfl,h⟩)
 ·(simp only [go_sem,hD,hF,hJ,hP,k1];try exact bQ)
 ·(simp only [go_sem,hD,hF,hJ,hP,k1];try exact bQ)
 rintro⟨rest,k⟩ ⟨h1,h⟩ IH
 dsimp only at h1 h
 cases rest with
 | nil=>
  have hD:=drop_nil h1
  simp only [iX]at h
  repeat' (first
 | simp only [go_sem,hD,hF,hJ,hP,k1]
 | (with_reducible first | refine cq fun hc=> ?_ | refine cr fun hc=> ?_ | refine ct (fun hc=> ?_) fun hc=> ?_) <;> (try simp only [hc,bs, ↓reduceIte]at h) <;> try simp only [hc]
 | (with_reducible refine aL hQ ?_;(try cases h);simp only [aE,aF,dj,dk,go_sem,hD,hF,hJ,hP,k1];repeat' (first | exact Ok.out | with_reducible refine aV ?_ ?_ | (simp;done))))
 | cons a rest=>
  obtain⟨hF,g2,hD,g4⟩:=drop_cons h1
  have bY:k<4611686018427387904:=by omega
  have NG:=hb a (List.mem_of_getElem? hF)
  simp only [iX]at h
  repeat' (first
 | simp only [go_sem,hD,hF,hJ,hP,k1]
 | (with_reducible refine CV.use (he) (NG) ?_)
 | (with_reducible first | refine cq fun hc=> ?_ | refine cr fun hc=> ?_ | refine ct (fun hc=> ?_) fun hc=> ?_) <;> (try simp only [hc,bs, ↓reduceIte]at h) <;> try simp only [hc]
 | (with_reducible refine aL hQ ?_;(try cases h);simp only [aE,aF,dj,dk,go_sem,hD,hF,hJ,hP,k1];repeat' (first | exact Ok.out | with_reducible refine aV ?_ ?_ | (simp;done))))
  refine ep 1 0 ?_ ?_ (IH (rest,k+1) ⟨g2,h⟩ (Nat.lt_succ_self _))
  ·(simp only [go_sem,hD,hF,hJ,hP,k1,aQ bY];try exact bQ)
  ·(simp only [go_sem,hD,hF,hJ,hP,k1,aQ bY];try exact bQ)
theorem tg {P:Program} {g f:Nat} {row:List D} {rows:List (List D)} {z:Nat} {d:D} (h:aH P g [.slice .shared z rows, .ez f [.ptr 0 0]] ⟨[row],[]⟩ d ⟨[row],[]⟩) (ox:D.bG 0 0 row=true) (hw:D.ik 0 0 rows=true) (hd:D.ok 0 0 d=true) {s:St} {o:Nat} (ho:s.al[o]? = some row) :
 aH P g [.slice .shared z rows, .ez f [.ptr o 0]] s d s:=by
 refine cQ.frame [o] [] h (by simp) List.nodup_nil (by simpa using (List.getElem?_eq_some_iff.1 ho).1) (by simp) rfl (fun i o' ds e1 e2=> ?_) rfl (by simp) (by simp [D.eC,D.cB,Tag.cB,jC _ _ _ hw])
  (by simp [D.bG,D.ok,Tag.ok,lE (Nat.zero_le 1) (Nat.le_refl 0) _ hw]) ?_
 ·cases i with
  | zero=>simp at e1 e2;subst e1;subst e2;exact⟨by rw [eD _ _ _ ox];exact ho,gu (Nat.zero_le 1) (Nat.le_refl 0) _ ox⟩
  | succ i=>simp at e1
 ·rintro _ _ ⟨rfl,rfl⟩
  refine⟨mY _ _ _ hd, ?_⟩
  have:s.al.set o row=s.al:=by
   apply List.ext_getElem?
   intro i
   rw [List.getElem?_set]
   split
   ·rename_i e;subst e;rw [ho];split
    ·rfl
    ·rename_i hh;exact absurd (List.getElem?_eq_some_iff.1 ho).1 hh
   ·rfl
  simp [St.back,gZ,eD _ _ _ ox,this]
theorem qY {l:List ax} (hl:l.length<4611686018427387904) {f:Nat} {row:List D} {b:ax→Bool} (ox:D.bG 0 0 row=true) (he:enters Try.prog f=true)
 (hb : ∀ x∈l,aH Try.prog f ([.str x]++ [.ptr 0 0]) ⟨[row],[]⟩ (.bool (b x)) ⟨[row],[]⟩) :
 aH Try.prog dN [.slice .shared 1 (l.map encStr), .ez f [.ptr 0 0]] ⟨[row],[]⟩ (.bool (l.any b)) ⟨[row],[]⟩:=by
 have k1 : ∀ n m,D.e8 n m row=row:=fun n m=>fw n m _ ox
 have hi:=tf hl ox he hb
 have e:decide (iX b 0 l≥0)=l.any b:=by
  have:=xh b l 0 (Int.le_refl 0)
  cases hh:l.any b <;> simp_all
 refine aH.go ml rfl fun B Q hB hQ=> ?_
 have⟨hD,hF,hJ,hP⟩:=cf
 repeat' (first
 | simp only [go_sem,hD,hF,hJ,hP,k1,e]
 | (with_reducible refine CU (hi) ?_)
 | (with_reducible first | refine cq fun hc=> ?_ | refine cr fun hc=> ?_ | refine ct (fun hc=> ?_) fun hc=> ?_) <;> (try simp only [hc,bs, ↓reduceIte]at h) <;> try simp only [hc]
 | (with_reducible refine aL hQ ?_;simp only [aE,aF,dj,dk,go_sem,hD,hF,hJ,hP,k1,e];repeat' (first | exact Ok.out | with_reducible refine aV ?_ ?_ | (simp;done))))
theorem qZ {l:List ax} (hl:l.length<4611686018427387904) {f:Nat} {row:List D} {b:ax→Bool} (ox:D.bG 0 0 row=true) (he:enters Try.prog f=true)
 (hb : ∀ x∈l,aH Try.prog f ([.str x]++ [.ptr 0 0]) ⟨[row],[]⟩ (.bool (b x)) ⟨[row],[]⟩) {s:St} {o:Nat} (ho:s.al[o]? = some row) :
 aH Try.prog dN [.slice .shared 1 (l.map encStr), .ez f [.ptr o 0]] s (.bool (l.any b)) s:=
 tg (qY hl ox he hb) ox (er l) rfl ho
theorem pd {l:List Pc} (hl:l.length<4611686018427387904) {f:Nat} {row:List D} {b:Pc→Bool} (ox:D.bG 0 0 row=true) (he:enters Try.prog f=true)
 (hb : ∀ x∈l,aH Try.prog f ([.agg (bP x)]++ [.ptr 0 0]) ⟨[row],[]⟩ (.bool (b x)) ⟨[row],[]⟩) :
 aH Try.prog dS [.slice .shared 5 (l.map bP), .ez f [.ptr 0 0]] ⟨[row],[]⟩ (.int .i64 (iX b 0 l)) ⟨[row],[]⟩:=by
 generalize h:iX b 0 l=p
 have k1 : ∀ n m,D.e8 n m row=row:=fun n m=>fw n m _ ox
 refine aH.go mH rfl fun B Q hB hQ=> ?_
 have⟨hD,hF,hJ,hP⟩:=cf
 repeat' (first
 | simp only [go_sem,hD,hF,hJ,hP,k1]
 | (with_reducible first | refine cq fun hc=> ?_ | refine cr fun hc=> ?_ | refine ct (fun hc=> ?_) fun hc=> ?_) <;> (try simp only [hc,bs, ↓reduceIte]at h) <;> try simp only [hc]
 | (with_reducible refine aL hQ ?_;(try cases h);simp only [aE,aF,dj,dk,go_sem,hD,hF,hJ,hP,k1];repeat' (first | exact Ok.out | with_reducible refine aV ?_ ?_ | (simp;done))))
 refine ep 1 0 ?_ ?_ (bx.ind (ι:=List Pc×Nat) (fun i=>l.drop i.2=i.1∧iX b (i.2:Int) i.1=p) (fun i=>i.1.length)
  (fun i=> [(0, .slice .shared 5 (l.map bP)),(1, .ez f [.ptr 0 0]),(7, .int .i64 (l.length:Int)),(8, .int .i64 (i.2:Int))]) (fun i=>⟨[row],[]⟩) ?_ (l,0) ⟨rfl,h⟩)
 ·(simp only [go_sem,hD,hF,hJ,hP,k1];try exact bQ)
 ·(simp only [go_sem,hD,hF,hJ,hP,k1];try exact bQ)
 rintro⟨rest,k⟩ ⟨h1,h⟩ IH
 dsimp only at h1 h
 cases rest with
 | nil=>
  have hD:=drop_nil h1
  simp only [iX]at h
  repeat' (first
 | simp only [go_sem,hD,hF,hJ,hP,k1]
 | (with_reducible first | refine cq fun hc=> ?_ | refine cr fun hc=> ?_ | refine ct (fun hc=> ?_) fun hc=> ?_) <;> (try simp only [hc,bs, ↓reduceIte]at h) <;> try simp only [hc]
 | (with_reducible refine aL hQ ?_;(try cases h);simp only [aE,aF,dj,dk,go_sem,hD,hF,hJ,hP,k1];repeat' (first | exact Ok.out | with_reducible refine aV ?_ ?_ | (simp;done))))
 | cons a rest=>
  obtain⟨hF,g2,hD,g4⟩:=drop_cons h1
  have bY:k<4611686018427387904:=by omega
  have NG:=hb a (List.mem_of_getElem? hF)
  simp only [iX]at h
  repeat' (first
 | simp only [go_sem,hD,hF,hJ,hP,k1]
 | (with_reducible refine CV.use (he) (NG) ?_)
 | (with_reducible first | refine cq fun hc=> ?_ | refine cr fun hc=> ?_ | refine ct (fun hc=> ?_) fun hc=> ?_) <;> (try simp only [hc,bs, ↓reduceIte]at h) <;> try simp only [hc]
 | (with_reducible refine aL hQ ?_;(try cases h);simp only [aE,aF,dj,dk,go_sem,hD,hF,hJ,hP,k1];repeat' (first | exact Ok.out | with_reducible refine aV ?_ ?_ | (simp;done))))
  refine ep 1 0 ?_ ?_ (IH (rest,k+1) ⟨g2,h⟩ (Nat.lt_succ_self _))
  ·(simp only [go_sem,hD,hF,hJ,hP,k1,aQ bY];try exact bQ)
  ·(simp only [go_sem,hD,hF,hJ,hP,k1,aQ bY];try exact bQ)
theorem sq {l:List Pc} (hl:l.length<4611686018427387904) {f:Nat} {row:List D} {b:Pc→Bool} (ox:D.bG 0 0 row=true) (he:enters Try.prog f=true)
 (hb : ∀ x∈l,aH Try.prog f ([.agg (bP x)]++ [.ptr 0 0]) ⟨[row],[]⟩ (.bool (b x)) ⟨[row],[]⟩) :
 aH Try.prog ew [.slice .shared 5 (l.map bP), .ez f [.ptr 0 0]] ⟨[row],[]⟩ (.bool (l.any b)) ⟨[row],[]⟩:=by
 have k1 : ∀ n m,D.e8 n m row=row:=fun n m=>fw n m _ ox
 have hi:=pd hl ox he hb
 have e:decide (iX b 0 l≥0)=l.any b:=by
  have:=xh b l 0 (Int.le_refl 0)
  cases hh:l.any b <;> simp_all
 refine aH.go lL rfl fun B Q hB hQ=> ?_
 have⟨hD,hF,hJ,hP⟩:=cf
 repeat' (first
 | simp only [go_sem,hD,hF,hJ,hP,k1,e]
 | (with_reducible refine CU (hi) ?_)
 | (with_reducible first | refine cq fun hc=> ?_ | refine cr fun hc=> ?_ | refine ct (fun hc=> ?_) fun hc=> ?_) <;> (try simp only [hc,bs, ↓reduceIte]at h) <;> try simp only [hc]
 | (with_reducible refine aL hQ ?_;simp only [aE,aF,dj,dk,go_sem,hD,hF,hJ,hP,k1,e];repeat' (first | exact Ok.out | with_reducible refine aV ?_ ?_ | (simp;done))))
end Go.Abs

/-! MirFlat2 -/

namespace Go.Abs
mutual
def Sm.pre:Sm→List Sm
 | ⟨id,kind,labels,name,pc,x,has,args,bf,bb⟩=>⟨id,kind,labels,name,pc,x,has,args,bf,bb⟩::(Sm.gd bf++Sm.gd bb)
def Sm.gd:List Sm→List Sm
 | []=> []
 | s::l=>s.pre++Sm.gd l
end
def Pg.pre (p:Pg):List Sm:=(p.procs.map fun f=>Sm.gd f.body).flatten
mutual
theorem Lr (proc up next loop:Int) (out:List Im) : ∀ s:Sm,∃ e:List Im,Im.one proc up next loop out s=out++e∧e.map Im.s=s.pre
 | ⟨id,kind,labels,name,pc,x,has,args,bf,bb⟩=>by
  simp only [Im.one,Sm.pre]
  obtain⟨e1,h1,k1⟩:=rB proc ((out.length:Int)+1) (if kind==6 then(out.length:Int)+1 else next) (if kind==6 then(out.length:Int)+1 else loop) (out++ [⟨⟨id,kind,labels,name,pc,x,has,args,bf,bb⟩,proc,up,next,loop⟩]) bf
  obtain⟨e2,h2,k2⟩:=rB proc ((out.length:Int)+1) (if kind==6 then(out.length:Int)+1 else next) (if kind==6 then(out.length:Int)+1 else loop) (Im.rows proc ((out.length:Int)+1) (if kind==6 then(out.length:Int)+1 else next) (if kind==6 then(out.length:Int)+1 else loop) (out++ [⟨⟨id,kind,labels,name,pc,x,has,args,bf,bb⟩,proc,up,next,loop⟩]) bf) bb
  refine⟨⟨⟨id,kind,labels,name,pc,x,has,args,bf,bb⟩,proc,up,next,loop⟩::(e1++e2), ?_, ?_⟩
  ·rw [h2,h1];simp
  ·simp [k1,k2]
theorem rB (proc up next loop:Int) (out:List Im) : ∀ l:List Sm,∃ e:List Im,Im.rows proc up next loop out l=out++e∧e.map Im.s=Sm.gd l
 | []=>⟨[],by simp [Im.rows],rfl⟩
 | s::l=>by
  simp only [Im.rows,Sm.gd]
  obtain⟨e1,h1,k1⟩:=Lr proc up (if l.length=0 then next else(out.length:Int)+1+(s.gf:Int)) loop out s
  obtain⟨e2,h2,k2⟩:=rB proc up next loop (Im.one proc up (if l.length=0 then next else(out.length:Int)+1+(s.gf:Int)) loop out s) l
  refine⟨e1++e2, ?_,by simp [k1,k2]⟩
  rw [h2,h1];simp
end
theorem Ga : ∀ (l:List Pc) (n:Nat) (h:Sh),h.lo.length=n→h.hi.length=n→
 ∃ e lo hi,Sh.go n h l = ⟨h.L++e,h.lo++lo,h.hi++hi⟩∧e.map Im.s=(l.map fun f=>Sm.gd f.body).flatten∧lo.length=l.length∧hi.length=l.length∧
  ∀ (i:Nat) (f:Pc),l[i]? = some f→∃ a b e' Eu:List Im,lo[i]? = some (((h.L++a).length:Int)+1)∧hi[i]? = some (((h.L++a++b).length:Int)+1)∧b.map Im.s=Sm.gd f.body∧e=a++b++e'
 | [],n,h,hl,hh=>⟨[],[],[],by simp [Sh.go],rfl,rfl,rfl,fun i f h=>by simp at h⟩
 | f::l,n,h,hl,hh=>by
  simp only [Sh.go]
  obtain⟨e1,h1,k1⟩:=rB (n:Int) 0 (-1) 0 h.L f.body
  obtain⟨e2,lo,hi,h2,k2,h3,h4,h5⟩:=Ga l (n+1) ⟨Im.rows (n:Int) 0 (-1) 0 h.L f.body,h.lo++ [(h.L.length:Int)+1],h.hi++ [((Im.rows (n:Int) 0 (-1) 0 h.L f.body).length:Int)+1]⟩ (by simp [hl]) (by simp [hh])
  refine⟨e1++e2,((h.L.length:Int)+1)::lo,(((Im.rows (n:Int) 0 (-1) 0 h.L f.body).length:Int)+1)::hi, ?_,by simp [k1,k2],by simp [h3],by simp [h4],fun i g fN=> ?_⟩
  ·rw [h2,h1];simp
  ·cases i with
   | zero=>
    simp only [List.getElem?_cons_zero,Option.some.injEq]at fN
    subst fN
    exact⟨[],e1,e2,[],by simp,by rw [h1];simp,k1,by simp⟩
   | succ i=>
    simp only [List.getElem?_cons_succ]at fN
    obtain⟨a,b,e',Eu,g1,g2,g3,g4⟩:=h5 i g fN
    refine⟨e1++a,b,e',Eu, ?_, ?_,g3,by rw [g4];simp⟩
    ·rw [List.getElem?_cons_succ,g1,h1];simp
    ·rw [List.getElem?_cons_succ,g2,h1];simp
theorem pY (p:Pg):p.eW.L.map Im.s=p.pre∧∀ (i:Nat) (f:Pc),p.procs[i]? = some f→∃ a b e:List Im,p.eW.lo[i]? = some ((a.length:Int)+1)∧p.eW.hi[i]? = some (((a++b).length:Int)+1)∧b.map Im.s=Sm.gd f.body∧p.eW.L=a++b++e:=by
 obtain⟨e,lo,hi,h1,h2,h3,h4,h5⟩:=Ga p.procs 0 ⟨[],[],[]⟩ rfl rfl
 unfold Pg.eW
 rw [h1]
 refine⟨by simpa [Pg.pre]using h2,fun i f hf=> ?_⟩
 obtain⟨a,b,e',_,g1,g2,g3,g4⟩:=h5 i f hf
 exact⟨a,b,e',by simpa using g1,by simpa using g2,g3,by simpa using g4⟩
end Go.Abs

/-! Sl2 -/

namespace Go.Abs
set_option maxRecDepth 8000
open Go.Proofs
def Pg.at (p:Pg) (name:ax):Int:=iX (fun f:Pc=>f.name==name) 0 p.procs
theorem Ls (name:ax) (f:Pc):aH Try.prog ic ([.agg (bP f)]++ [.ptr 0 0]) ⟨[[.str name]],[]⟩ (.bool (f.name==name)) ⟨[[.str name]],[]⟩:=by
 show aH Try.prog ic [.agg (bP f), .ptr 0 0] _ _ _
 refine aH.go qU rfl fun B Q hB hQ=> ?_
 have⟨hD,hF,hJ,hP⟩:=cf
 repeat' (first
 | simp only [go_sem,hD,hF,hJ,hP]
 | (with_reducible refine aL hQ ?_;simp only [aE,aF,Option.some.injEq,exists_eq_left',go_sem,hD,hF,hJ,hP];repeat' (first | exact Ok.out | with_reducible refine aV ?_ ?_ | (simp;done))))
theorem Gb {p:Pg} (hs:p.procs.length<4611686018427387904) (name:ax) (s:St):aH Try.prog jf [.cD (ie p) 0, .str name] s (.int .i64 (p.at name)) s:=by
 refine aH.pure ?_ (by simp [D.bG,D.ok,xg]) rfl s
 have hi:=fun {s:St} {o:Nat} (ho:s.al[o]? = some [.str name])=>tg (pd (l:=p.procs) (f:=ic) (row:= [.str name]) (b:=fun f:Pc=>f.name==name) hs rfl (by with_unfolding_all rfl) (fun x _=>Ls name x)) rfl (yN _) rfl ho
 have fN:=fun {s:St} {o:Nat} (ho:s.al[o]? = some [.str name])=>(show aH Try.prog dS [.slice .shared 5 (p.procs.map bP), .ez 66 [.ptr o 0]] s (.int .i64 (p.at name)) s from hi ho)
 unfold S0
 rw [Ad]
 refine aH.go sn rfl fun B Q hB hQ=> ?_
 have⟨hD,hF,hJ,hP⟩:=cf
 repeat' (first
 | simp only [go_sem,hD,hF,hJ,hP]
 | (with_reducible refine CU (fN (by with_unfolding_all rfl)) ?_)
 | (with_reducible refine aL hQ ?_;simp only [aE,aF,Option.some.injEq,exists_eq_left',go_sem,hD,hF,hJ,hP];repeat' (first | exact Ok.out | with_reducible refine aV ?_ ?_ | (simp;done))))
theorem Gc : ∀ (l:List Pc) (n:Nat) (h:Sh),(Sh.go n h l).L.length≤h.L.length+Pc.aT l
 | [],n,h=>by simp [Sh.go]
 | f::l,n,h=>by
  simp only [Sh.go]
  refine Nat.le_trans (Gc l _ _) ?_
  have:=eh (n:Int) 0 (-1) 0 h.L f.body
  have:=kB f.body
  simp only [Pc.aT,Pc.size];omega
theorem pZ (p:Pg):p.eW.L.length≤Pc.aT p.procs:=by have:=Gc p.procs 0 ⟨[],[],[]⟩;simpa [Pg.eW]using this
theorem IP {p:Pg} {i:Nat} {f:Pc} (hf:p.procs[i]? = some f) (hs:Pc.aT p.procs<1000000000) : ∃ it:List Im,it.map Im.s=Sm.gd f.body∧∀ s,aH Try.prog iL [.cD (ie p) 0, .int .i64 (i:Int)] s (.slice .shared 17 (it.map dX)) s:=by
 obtain⟨a,b,e,h1,h2,h3,h4⟩:=(pY p).2 i f hf
 refine⟨b,h3,fun s=> ?_⟩
 refine aH.pure ?_ (by simp [D.bG,D.ok,xg]) (by simp [D.ok,Tag.ok,yO]) s
 have hL:p.eW.L.length<1000000000:=Nat.lt_of_le_of_lt (pZ p) hs
 have l1:(i:Int)<(p.eW.lo.length:Int):=by have:=(List.getElem?_eq_some_iff.1 h1).1;omega
 have l2:(i:Int)<(p.eW.hi.length:Int):=by have:=(List.getElem?_eq_some_iff.1 h2).1;omega
 have Ki:a.length+b.length≤p.eW.L.length:=by rw [h4];simp
 have w1:IntKind.wrap .i64 ((a.length:Int)+1 - 1)=(a.length:Int):=by rw [show(a.length:Int)+1 - 1=(a.length:Int) by omega];exact dg (by omega) (by omega)
 have w2:IntKind.wrap .i64 (((a.length+b.length:Nat):Int)+1 - 1)=((a.length+b.length:Nat):Int):=by rw [show((a.length+b.length:Nat):Int)+1 - 1=((a.length+b.length:Nat):Int) by omega];exact dg (by omega) (by omega)
 have c1:((a.length:Int)≤((a.length+b.length:Nat):Int))=True:=by simp only [eq_iff_iff,iff_true];omega
 have c2:(((a.length+b.length:Nat):Int)≤(p.eW.L.length:Int))=True:=by simp only [eq_iff_iff,iff_true];omega
 have hb:List.drop a.length (List.take (a.length+b.length) (List.map dX p.eW.L))=List.map dX b:=by rw [h4];simp [List.map_append,List.take_append,List.drop_append]
 unfold S0
 rw [Ad]
 refine aH.go uf rfl fun B Q hB hQ=> ?_
 have⟨hD,hF,hJ,hP⟩:=cf
 repeat' (first
 | simp only [go_sem,hD,hF,hJ,hP,h1,h2,w1,w2,c1,c2,or_true,true_and,and_self,ite_self,Int.toNat_natCast,hb]
 | (with_reducible refine aL hQ ?_;simp only [aE,aF,Option.some.injEq,exists_eq_left',go_sem,hD,hF,hJ,hP];repeat' (first | exact Ok.out | with_reducible refine aV ?_ ?_ | (simp;done))))
end Go.Abs

/-! TMay1 -/

namespace Go.Abs
set_option maxRecDepth 8000
open Go.Proofs
theorem xR {r:ax} : tR r=true↔kE r=r.length:=by
 induction r with
 | nil=>simp [tR,kE]
 | cons c r ih=>
  simp only [tR,kE]
  cases h1:tc c <;> cases h2:wa c <;> simp [ih]
theorem ti (t:ax) (hl:t.length<4611686018427387904) (s:St):aH Try.prog jJ [.str t] s (.bool (isName t)) s:=by
 refine aH.pure ?_ rfl rfl s
 have hr:=fun s=>PJ (pos:=0) hl s
 simp only [List.drop_zero,Nat.zero_add]at hr
 unfold S0
 cases t with
 | nil=>
  have z:decide (((0:Nat):Int)<1)=true:=rfl
  have z':decide ((0:Int)<1)=true:=rfl
  have e:isName [] = false:=rfl
  rw [e]
  refine aH.go ju rfl fun B Q hB hQ=> ?_
  have⟨hD,hF,hJ,hP⟩:=cf
  repeat' (first
 | simp only [go_sem,hD,hF,hJ,hP,z,z']
 | (with_reducible refine aL hQ ?_;simp only [aE,aF,Option.some.injEq,exists_eq_left',go_sem,hD,hF,hJ,hP];repeat' (first | exact Ok.out | with_reducible refine aV ?_ ?_ | (simp;done))))
 | cons c r=>
  have l1:decide (((r.length+1:Nat):Int)<1)=false:=by simp;omega
  generalize h:isName (c::r)=p
  simp only [isName]at h
  cases hL:tc c
  ·simp only [hL,Bool.not_false,Bool.or_true, ↓reduceIte]at h
   subst h
   by_cases c8:decide (((r.length+1:Nat):Int) > 8)=true
   ·refine aH.go ju rfl fun B Q hB hQ=> ?_
    have⟨hD,hF,hJ,hP⟩:=cf
    repeat' (first
 | simp only [go_sem,hD,hF,hJ,hP,l1,c8]
 | (with_reducible refine aL hQ ?_;simp only [aE,aF,Option.some.injEq,exists_eq_left',go_sem,hD,hF,hJ,hP];repeat' (first | exact Ok.out | with_reducible refine aV ?_ ?_ | (simp;done))))
   ·have c8:decide (((r.length+1:Nat):Int) > 8)=false:=by simpa using c8
    refine aH.go ju rfl fun B Q hB hQ=> ?_
    have⟨hD,hF,hJ,hP⟩:=cf
    repeat' (first
 | simp only [go_sem,hD,hF,hJ,hP,l1,c8,hL]
 | (with_reducible refine CU (nf _ _) ?_)
 | (with_reducible refine aL hQ ?_;simp only [aE,aF,Option.some.injEq,exists_eq_left',go_sem,hD,hF,hJ,hP];repeat' (first | exact Ok.out | with_reducible refine aV ?_ ?_ | (simp;done))))
  ·simp only [hL,Bool.not_true,Bool.or_false]at h
   by_cases c8:decide (((r.length+1:Nat):Int) > 8)=true
   ·simp only [c8, ↓reduceIte]at h
    subst h
    refine aH.go ju rfl fun B Q hB hQ=> ?_
    have⟨hD,hF,hJ,hP⟩:=cf
    repeat' (first
 | simp only [go_sem,hD,hF,hJ,hP,l1,c8]
 | (with_reducible refine aL hQ ?_;simp only [aE,aF,Option.some.injEq,exists_eq_left',go_sem,hD,hF,hJ,hP];repeat' (first | exact Ok.out | with_reducible refine aV ?_ ?_ | (simp;done))))
   ·have c8:decide (((r.length+1:Nat):Int) > 8)=false:=by simpa using c8
    simp only [c8,Bool.false_eq_true, ↓reduceIte]at h
    have cE:kE (c::r)=kE r+1:=by simp [kE,hL]
    cases hn:tR r
    ·simp only [hn,Bool.false_eq_true, ↓reduceIte]at h
     have:kE r≠r.length:=fun e=>by rw [xR.2 e]at hn;cases hn
     have e:(((kE (c::r):Nat):Int)==((r.length+1:Nat):Int))=false:=by rw [cE];simp;omega
     subst h
     refine aH.go ju rfl fun B Q hB hQ=> ?_
     have⟨hD,hF,hJ,hP⟩:=cf
     repeat' (first
 | simp only [go_sem,hD,hF,hJ,hP,l1,c8,hL,e]
 | (with_reducible refine CU (nf _ _) ?_)
 | (with_reducible refine CU (hr _) ?_)
 | (with_reducible refine aL hQ ?_;simp only [aE,aF,Option.some.injEq,exists_eq_left',go_sem,hD,hF,hJ,hP];repeat' (first | exact Ok.out | with_reducible refine aV ?_ ?_ | (simp;done))))
    ·simp only [hn, ↓reduceIte]at h
     have:=xR.1 hn
     have e:(((kE (c::r):Nat):Int)==((r.length+1:Nat):Int))=true:=by rw [cE];simp;omega
     subst h
     refine aH.go ju rfl fun B Q hB hQ=> ?_
     have⟨hD,hF,hJ,hP⟩:=cf
     repeat' (first
 | simp only [go_sem,hD,hF,hJ,hP,l1,c8,hL,e]
 | (with_reducible refine CU (nf _ _) ?_)
 | (with_reducible refine CU (hr _) ?_)
 | (with_reducible refine CU (Nz _ _) ?_)
 | (with_reducible refine aL hQ ?_;simp only [aE,aF,Option.some.injEq,exists_eq_left',go_sem,hD,hF,hJ,hP];repeat' (first | exact Ok.out | with_reducible refine aV ?_ ?_ | (simp;done))))
theorem BM (op:Int) (s:St):aH Try.prog qw [.int .i64 op] s (.int .i64 (lg op)) s:=by
 refine aH.pure ?_ rfl rfl s
 unfold S0
 generalize h:lg op=p
 unfold lg at h
 refine aH.go yD rfl fun B Q hB hQ=> ?_
 have⟨hD,hF,hJ,hP⟩:=cf
 repeat' (first
 | simp only [go_sem,hD,hF,hJ,hP]
 | (with_reducible first | refine cq fun hc=> ?_ | refine cr fun hc=> ?_ | refine ct (fun hc=> ?_) fun hc=> ?_) <;> (try simp only [hc,bs, ↓reduceIte]at h) <;> try simp only [hc]
 | (with_reducible refine aL hQ ?_;(try cases h);simp only [aE,aF,dj,dk,go_sem,hD,hF,hJ,hP];repeat' (first | exact Ok.out | with_reducible refine aV ?_ ?_ | (simp;done))))
theorem rC {l:List ax} (hl:l.length<4611686018427387904) (hs : ∀ t∈l,t.length<4611686018427387904) (s:St):aH Try.prog jq [.slice .shared 1 (l.map encStr)] s (.bool (cT l)) s:=by
 refine aH.pure ?_ (by simp [D.bG,D.ok,er,Tag.ok]) rfl s
 unfold S0
 generalize h:cT l=p
 refine aH.go xa rfl fun B Q hB hQ=> ?_
 have⟨hD,hF,hJ,hP⟩:=cf
 repeat' (first
 | simp only [go_sem,hD,hF,hJ,hP]
 | (with_reducible first | refine cq fun hc=> ?_ | refine cr fun hc=> ?_ | refine ct (fun hc=> ?_) fun hc=> ?_) <;> (try simp only [hc,bs, ↓reduceIte]at h) <;> try simp only [hc]
 | (with_reducible refine aL hQ ?_;(try cases h);simp only [aE,aF,dj,dk,go_sem,hD,hF,hJ,hP];repeat' (first | exact Ok.out | with_reducible refine aV ?_ ?_ | (simp;done))))
 refine dM 0 0 (bx.ind (ι:=List ax×Nat) (fun i=>l.drop i.2=i.1∧cT i.1=p) (fun i=>i.1.length)
  (fun i=> [(5, .slice .shared 1 (l.map encStr)),(6, .int .i64 (l.length:Int)),(7, .int .i64 (i.2:Int))]) (fun i=>⟨[],[]⟩) ?_ (l,0) ⟨rfl,h⟩)
 rintro⟨rest,k⟩ ⟨h1,h⟩ IH
 dsimp only at h1 h
 cases rest with
 | nil=>
  have hD:=drop_nil h1
  simp only [cT]at h
  repeat' (first
 | simp only [go_sem,hD,hF,hJ,hP]
 | (with_reducible first | refine cq fun hc=> ?_ | refine cr fun hc=> ?_ | refine ct (fun hc=> ?_) fun hc=> ?_) <;> (try simp only [hc,bs, ↓reduceIte]at h) <;> try simp only [hc]
 | (with_reducible refine aL hQ ?_;(try cases h);simp only [aE,aF,dj,dk,go_sem,hD,hF,hJ,hP];repeat' (first | exact Ok.out | with_reducible refine aV ?_ ?_ | (simp;done))))
 | cons t rest=>
  obtain⟨hF,g2,hD,g4⟩:=drop_cons h1
  have hJ:k<4611686018427387904:=by omega
  have hn:=ti t (hs t (List.mem_of_getElem? hF))
  simp only [cT]at h
  repeat' (first
 | simp only [go_sem,hD,hF,hJ,hP]
 | (with_reducible refine CU (hn _) ?_)
 | (with_reducible first | refine cq fun hc=> ?_ | refine cr fun hc=> ?_ | refine ct (fun hc=> ?_) fun hc=> ?_) <;> (try simp only [hc,bs, ↓reduceIte]at h) <;> try simp only [hc]
 | (with_reducible refine aL hQ ?_;(try cases h);simp only [aE,aF,dj,dk,go_sem,hD,hF,hJ,hP];repeat' (first | exact Ok.out | with_reducible refine aV ?_ ?_ | (simp;done))))
  refine dM 0 0 (IH (rest,k+1) ⟨g2,h⟩ (Nat.lt_succ_self _))
mutual
def Ex.dp (left:Int):Ex→Bool
 | ⟨op,n,name,kids⟩=>
  if decide (left<1) || (kids.length:Int) != lg op then false
  else if op==1 then decide (n≥0) && name == []
  else if op==2 then n==0 && isName name
  else if n != 0 || !(name == [])then false
  else Ex.we (left - 1) kids
def Ex.we (left:Int):List Ex→Bool
 | []=>true
 | x::l=>if !(Ex.dp left x)then false else Ex.we left l
end
theorem Lt : ∀ (m:Nat) (x:Ex),x.size≤m→x.size<4611686018427387904→x.texts→∀ left:Int,0≤left→left≤100→∀ s:St,aH Try.prog lf [.agg (bu x), .int .i64 left] s (.bool (x.dp left)) s:=by
 intro m
 induction m with
 | zero=>rintro⟨op,v,name,kids⟩ h;simp only [Ex.size]at h;omega
 | succ m ih=>
  rintro⟨op,v,name,kids⟩ h hx ht left h0 ZK s
  refine aH.pure ?_ (by simp [D.bG,D.ok,kc]) rfl s
  have hlen:kids.length<4611686018427387904:=by simp only [Ex.size]at hx;have:=Ex.dt kids;omega
  have hn:=ti name ht.1
  generalize hp:Ex.dp left ⟨op,v,name,kids⟩=p
  simp only [Ex.dp]at hp
  unfold S0
  by_cases Gd:left<1
  ·have d1:decide (left<1)=true:=by simpa using Gd
   simp only [d1,Bool.true_or, ↓reduceIte]at hp
   subst hp
   refine aH.go sc rfl fun B Q hB hQ=> ?_
   have⟨hD,hF,hJ,hP⟩:=cf
   repeat' (first
 | simp only [go_sem,hD,hF,hJ,hP,d1]
 | (with_reducible refine CU (BM _ _) ?_)
 | (with_reducible refine CU (hn _) ?_)
 | (with_reducible refine aL hQ ?_;simp only [aE,aF,dj,dk,go_sem,hD,hF,hJ,hP];repeat' (first | exact Ok.out | with_reducible refine aV ?_ ?_ | (simp;done))))
  ·have d1:decide (left<1)=false:=by simpa using Gd
   have w1:IntKind.wrap .i64 (left - 1)=left - 1:=dg (by omega) (by omega)
   have hk : ∀ y∈kids,∀ s,aH Try.prog lf [.agg (bu y), .int .i64 (left - 1)] s (.bool (y.dp (left - 1))) s:=fun y hy s=>
    ih y (by simp only [Ex.size]at h;have:=Ex.b8 hy;omega) (by simp only [Ex.size]at hx;have:=Ex.b8 hy;omega) (Ex.F1 ht hy) (left - 1) (by omega) (by omega) s
   simp only [d1,Bool.false_or]at hp
   have h:=hp
   clear hp
   refine aH.go sc rfl fun B Q hB hQ=> ?_
   have⟨hD,hF,hJ,hP⟩:=cf
   repeat' (first
 | simp only [go_sem,hD,hF,hJ,hP,d1]
 | (with_reducible refine CU (BM _ _) ?_)
 | (with_reducible refine CU (hn _) ?_)
 | (with_reducible first | refine cq fun hc=> ?_ | refine cr fun hc=> ?_ | refine ct (fun hc=> ?_) fun hc=> ?_) <;> (try simp only [hc,bs, ↓reduceIte]at h) <;> try simp only [hc]
 | (with_reducible refine aL hQ ?_;(try cases h);simp only [aE,aF,dj,dk,go_sem,hD,hF,hJ,hP,d1];repeat' (first | exact Ok.out | with_reducible refine aV ?_ ?_ | (simp;done))))
   all_goals
    refine dM 1 0 (bx.ind (ι:=List Ex×Nat) (fun i=>kids.drop i.2=i.1∧Ex.we (left - 1) i.1=p) (fun i=>i.1.length)
     (fun i=> [(1, .int .i64 left),(49, .slice .shared 4 (kids.map bu)),(50, .int .i64 (kids.length:Int)),(51, .int .i64 (i.2:Int))]) (fun i=>⟨[bu ⟨op,v,name,kids⟩],[]⟩) ?_ (kids,0) ⟨rfl,h⟩)
    rintro⟨rest,k⟩ ⟨h1,h⟩ IH
    dsimp only at h1 h
    cases rest with
    | nil=>
     have hD:=drop_nil h1
     simp only [Ex.we]at h
     repeat' (first
 | simp only [go_sem,hD,hF,hJ,hP]
 | (with_reducible first | refine cq fun hc=> ?_ | refine cr fun hc=> ?_ | refine ct (fun hc=> ?_) fun hc=> ?_) <;> (try simp only [hc,bs, ↓reduceIte]at h) <;> try simp only [hc]
 | (with_reducible refine aL hQ ?_;exact im)
 | (cases h;done))
    | cons y rest=>
     obtain⟨hF,g2,hD,g4⟩:=drop_cons h1
     have hy:=hk y (List.mem_of_getElem? hF)
     have hJ:k<4611686018427387904:=by omega
     simp only [Ex.we]at h
     repeat' (first
 | simp only [go_sem,hD,hF,hJ,hP,w1]
 | (with_reducible refine CU (hy _) ?_)
 | (with_reducible first | refine cq fun hc=> ?_ | refine cr fun hc=> ?_ | refine ct (fun hc=> ?_) fun hc=> ?_) <;> (try simp only [hc,bs, ↓reduceIte]at h) <;> try simp only [hc]
 | (with_reducible refine aL hQ ?_;(try cases h);simp only [aE,aF,dj,dk,go_sem,hD,hF,hJ,hP,w1];repeat' (first | exact Ok.out | with_reducible refine aV ?_ ?_ | (simp;done))))
     refine dM 1 0 (IH (rest,k+1) ⟨g2,h⟩ (Nat.lt_succ_self _))
end Go.Abs

/-! TMay2 -/

namespace Go.Abs
set_option maxRecDepth 8000
open Go.Proofs
theorem wg {x:Ex} (hx:x.size<4611686018427387904) (ht:x.texts) (s:St):aH Try.prog kK [.agg (bu x)] s (.bool (x.dp 20)) s:=by
 refine aH.pure ?_ (by simp [D.bG,D.ok,kc]) rfl s
 have hd:=fun s=>Lt _ x (Nat.le_refl _) hx ht 20 (by omega) (by omega) s
 unfold S0
 refine aH.go u9 rfl fun B Q hB hQ=> ?_
 have⟨hD,hF,hJ,hP⟩:=cf
 repeat' (first
 | simp only [go_sem,hD,hF,hJ,hP]
 | (with_reducible refine CU (hd _) ?_)
 | (with_reducible first | refine cq fun hc=> ?_ | refine cr fun hc=> ?_ | refine ct (fun hc=> ?_) fun hc=> ?_) <;> (try simp only [hc,bs, ↓reduceIte]at h) <;> try simp only [hc]
 | (with_reducible refine aL hQ ?_;exact im)
 | (cases h;done))
theorem Lu (x:Ex) (s:St):aH Try.prog qv [.agg (bu x)] s (.bool x.none) s:=by
 refine aH.pure ?_ (by simp [D.bG,D.ok,kc]) rfl s
 unfold S0
 generalize h:Ex.none x=p
 unfold Ex.none at h
 refine aH.go yC rfl fun B Q hB hQ=> ?_
 have⟨hD,hF,hJ,hP⟩:=cf
 repeat' (first
 | simp only [go_sem,hD,hF,hJ,hP]
 | (with_reducible first | refine cq fun hc=> ?_ | refine cr fun hc=> ?_ | refine ct (fun hc=> ?_) fun hc=> ?_) <;> (try simp only [hc,bs, ↓reduceIte]at h) <;> try simp only [hc]
 | (with_reducible refine aL hQ ?_;exact im)
 | (cases h;done))
def nV (t:ax) (is:Bool):Bool:=(is && isName t) || (!is && t == [])
theorem va (t:ax) (is:Bool) (hl:t.length<4611686018427387904) (s:St):aH Try.prog kC [.str t, .bool is] s (.bool (nV t is)) s:=by
 refine aH.pure ?_ rfl rfl s
 have hn:=ti t hl
 unfold S0
 generalize h:nV t is=p
 unfold nV at h
 refine aH.go xd rfl fun B Q hB hQ=> ?_
 have⟨hD,hF,hJ,hP⟩:=cf
 repeat' (first
 | simp only [go_sem,hD,hF,hJ,hP]
 | (with_reducible refine CU (hn _) ?_)
 | (with_reducible first | refine cq fun hc=> ?_ | refine cr fun hc=> ?_ | refine ct (fun hc=> ?_) fun hc=> ?_) <;> (try simp only [hc,bs, ↓reduceIte]at h) <;> try simp only [hc]
 | (with_reducible refine aL hQ ?_;exact im)
 | (cases h;done))
def pe (x:Ex) (is:Bool):Bool:=(is && x.dp 20) || (!is && x.none)
theorem BN {x:Ex} (is:Bool) (hx:x.size<4611686018427387904) (ht:x.texts) (s:St):aH Try.prog mh [.agg (bu x), .bool is] s (.bool (pe x is)) s:=by
 refine aH.pure ?_ (by simp [D.bG,D.ok,kc]) rfl s
 have hm:=wg hx ht
 unfold S0
 generalize h:pe x is=p
 unfold pe at h
 refine aH.go xe rfl fun B Q hB hQ=> ?_
 have⟨hD,hF,hJ,hP⟩:=cf
 repeat' (first
 | simp only [go_sem,hD,hF,hJ,hP]
 | (with_reducible refine CU (hm _) ?_)
 | (with_reducible refine CU (Lu _ _) ?_)
 | (with_reducible first | refine cq fun hc=> ?_ | refine cr fun hc=> ?_ | refine ct (fun hc=> ?_) fun hc=> ?_) <;> (try simp only [hc,bs, ↓reduceIte]at h) <;> try simp only [hc]
 | (with_reducible refine aL hQ ?_;exact im)
 | (cases h;done))
def kL:List Ar→Bool
 | []=>true
 | a::l=>if !(nV a.name a.ref) || !(pe a.x !a.ref)then false else kL l
theorem IQ {l:List Ar} (hl:l.length<4611686018427387904) (hs : ∀ a∈l,a.x.size<4611686018427387904∧a.x.texts∧a.name.length<4611686018427387904) (s:St) :
 aH Try.prog od [.slice .shared 6 (l.map dm)] s (.bool (kL l)) s:=by
 refine aH.pure ?_ (by simp [D.bG,D.ok,DX,Tag.ok]) rfl s
 unfold S0
 generalize h:kL l=p
 refine aH.go v8 rfl fun B Q hB hQ=> ?_
 have⟨hD,hF,hJ,hP⟩:=cf
 repeat' (first
 | simp only [go_sem,hD,hF,hJ,hP]
 | (with_reducible first | refine cq fun hc=> ?_ | refine cr fun hc=> ?_ | refine ct (fun hc=> ?_) fun hc=> ?_) <;> (try simp only [hc,bs, ↓reduceIte]at h) <;> try simp only [hc]
 | (with_reducible refine aL hQ ?_;exact im)
 | (cases h;done))
 refine dM 0 0 (bx.ind (ι:=List Ar×Nat) (fun i=>l.drop i.2=i.1∧kL i.1=p) (fun i=>i.1.length)
  (fun i=> [(5, .slice .shared 6 (l.map dm)),(6, .int .i64 (l.length:Int)),(7, .int .i64 (i.2:Int))]) (fun i=>⟨[],[]⟩) ?_ (l,0) ⟨rfl,h⟩)
 rintro⟨rest,k⟩ ⟨h1,h⟩ IH
 dsimp only at h1 h
 cases rest with
 | nil=>
  have hD:=drop_nil h1
  simp only [kL]at h
  repeat' (first
 | simp only [go_sem,hD,hF,hJ,hP]
 | (with_reducible first | refine cq fun hc=> ?_ | refine cr fun hc=> ?_ | refine ct (fun hc=> ?_) fun hc=> ?_) <;> (try simp only [hc,bs, ↓reduceIte]at h) <;> try simp only [hc]
 | (with_reducible refine aL hQ ?_;exact im)
 | (cases h;done))
 | cons a rest=>
  obtain⟨hF,g2,hD,g4⟩:=drop_cons h1
  have hJ:k<4611686018427387904:=by omega
  obtain⟨a1,a2,a3⟩:=hs a (List.mem_of_getElem? hF)
  have hn:=fun b s=>va a.name b a3 s
  have hw:=fun b s=>BN b a1 a2 s
  simp only [kL]at h
  repeat' (first
 | simp only [go_sem,hD,hF,hJ,hP]
 | (with_reducible refine CU (hn _ _) ?_)
 | (with_reducible refine CU (hw _ _) ?_)
 | (with_reducible first | refine cq fun hc=> ?_ | refine cr fun hc=> ?_ | refine ct (fun hc=> ?_) fun hc=> ?_) <;> (try simp only [hc,bs, ↓reduceIte]at h) <;> try simp only [hc]
 | (with_reducible refine aL hQ ?_;exact im)
 | (cases h;done))
  refine dM 0 0 (IH (rest,k+1) ⟨g2,h⟩ (Nat.lt_succ_self _))
def Sm.flags (s:Sm):Option (Bool×Bool×Bool×Bool×Bool×Bool):=
 if s.kind==1 then some (true,false,true,s.has,false,false)
 else if s.kind==2 || s.kind==10 then some (true,false,false,s.has,false,false)
 else if s.kind==3 then some (false,false,true,s.has,false,false)
 else if s.kind==4 then some (!(s.name == []),true,false,s.has,false,false)
 else if s.kind==5 then some (false,false,true,s.has,true,true)
 else if s.kind==6 then some (false,false,true,s.has,true,false)
 else if s.kind==9 then some (false,false,s.has,false,false,false)
 else if s.kind==7 || s.kind==8 then some (false,false,false,s.has,false,false)
 else none
def Sm.yQ (s:Sm) (nm pr x:Bool):Bool:=if !(nV s.name nm) || !(nV s.proc pr) || !(pe s.x x)then false else kL s.args
def Sm.yR (s:Sm) (f:Bool×Bool×Bool×Bool×Bool×Bool):Bool:=
 if f.2.2.2.1 || (!f.2.2.2.2.1 && decide ((s.bf.length:Int) > 0)) || (!f.2.2.2.2.2 && decide ((s.bb.length:Int) > 0)) || (!(s.kind==4) && decide ((s.args.length:Int) > 0))then false
 else s.yQ f.1 f.2.1 f.2.2.1
def Sm.fields (s:Sm):Bool:=match s.flags with
 | none=>false
 | some f=>s.yR f
section
variable {v:Sm} {B:eR} {Q:Exit→Tm→St→Prop} {p:Bool}
theorem IT {nm pr x:Bool} (hf:v.om) (hB:B.s = ⟨[],[]⟩) (hQ:mX 0 0 [(2,none)] (.bool p) ⟨[],[]⟩=Q) (h:v.yQ nm pr x=p) :
 Sem Try.prog B 93 QO Q [(1, .ptr 0 0),(3, .bool nm),(4, .bool pr),(5, .bool x)] ⟨[bl v],[]⟩:=by
 have h1:=fun b s=>va v.name b hf.name s
 have h2:=fun b s=>va v.proc b hf.proc s
 have h3:=fun b s=>BN b hf.x hf.xt s
 have h4:=fun s=>IQ hf.RZ hf.arg s
 unfold Sm.yQ at h
 have⟨hD,hF,hJ,hP⟩:=cf
 refine gk ?_
 repeat' (first
 | simp only [go_sem,hD,hF,hJ,hP]
 | (with_reducible refine CU (h1 _ _) ?_)
 | (with_reducible refine CU (h2 _ _) ?_)
 | (with_reducible refine CU (h3 _ _) ?_)
 | (with_reducible refine CU (h4 _) ?_)
 | (with_reducible first | refine cq fun hc=> ?_ | refine cr fun hc=> ?_ | refine ct (fun hc=> ?_) fun hc=> ?_) <;> (try simp only [hc,bs, ↓reduceIte]at h) <;> try simp only [hc]
 | (with_reducible refine aL hQ ?_;exact im)
 | (cases h;done))
theorem IU {nm pr x has th ot ar:Bool} (hf:v.om) (hB:B.s = ⟨[],[]⟩) (hQ:mX 0 0 [(2,none)] (.bool p) ⟨[],[]⟩=Q) (e:(v.kind==4)=ar) (h:v.yR (nm,pr,x,has,th,ot)=p) :
 Sem Try.prog B 93 QP Q [(1, .ptr 0 0),(3, .bool nm),(4, .bool pr),(5, .bool x),(6, .bool has),(7, .bool th),(8, .bool ot),(9, .bool ar)] ⟨[bl v],[]⟩:=by
 simp only [Sm.yR,e]at h
 have⟨hD,hF,hJ,hP⟩:=cf
 refine Sem.n8 ?_
 repeat' (first
 | simp only [go_sem,hD,hF,hJ,hP]
 | (with_reducible first | refine cq fun hc=> ?_ | refine cr fun hc=> ?_ | refine ct (fun hc=> ?_) fun hc=> ?_) <;> (try simp only [hc,bs, ↓reduceIte]at h) <;> try simp only [hc]
 | (with_reducible refine aL hQ ?_;(try cases h);simp only [aE,aF,dj,dk,go_sem,hD,hF,hJ,hP];repeat' (first | exact Ok.out | with_reducible refine aV ?_ ?_ | (simp;done)))
 | (cases h;done))
 all_goals
  refine Sem.re _ _ 1 0 (by rw [hB];exact uz rfl) (by rw [hB];exact uz rfl) ?_ ?_ (IT hf hB hQ h)
  ·(simp only [go_sem,hD,hF,hJ,hP];repeat' (first | exact Ok.out | with_reducible refine aV ?_ ?_))
  ·(simp only [go_sem,hD,hF,hJ,hP];repeat' (first | exact Ok.out | with_reducible refine aV ?_ ?_))
theorem IV {ar:Bool} (hf:v.om) (hB:B.s = ⟨[],[]⟩) (hQ:mX 0 0 [(2,none)] (.bool p) ⟨[],[]⟩=Q) (e:(v.kind==4)=ar) (h:v.fields=p) :
 Sem Try.prog B 93 Nw Q [(1, .ptr 0 0),(3, .bool false),(4, .bool false),(5, .bool false),(6, .bool v.has),(7, .bool false),(8, .bool false),(9, .bool ar)] ⟨[bl v],[]⟩:=by
 simp only [Sm.fields,Sm.flags]at h
 have⟨hD,hF,hJ,hP⟩:=cf
 refine Sem.n8 ?_
 repeat' (first
 | simp only [go_sem,hD,hF,hJ,hP]
 | (with_reducible first | refine cq fun hc=> ?_ | refine cr fun hc=> ?_ | refine ct (fun hc=> ?_) fun hc=> ?_) <;> (try simp only [hc,bs, ↓reduceIte]at h) <;> try simp only [hc]
 | (with_reducible refine aL hQ ?_;(try cases h);simp only [aE,aF,dj,dk,go_sem,hD,hF,hJ,hP];repeat' (first | exact Ok.out | with_reducible refine aV ?_ ?_ | (simp;done)))
 | (cases h;done))
 all_goals
  refine Sem.re _ _ 1 0 (by rw [hB];exact uz rfl) (by rw [hB];exact uz rfl) ?_ ?_ (IU hf hB hQ e h)
  ·(simp only [go_sem,hD,hF,hJ,hP];repeat' (first | exact Ok.out | with_reducible refine aV ?_ ?_))
  ·(simp only [go_sem,hD,hF,hJ,hP];repeat' (first | exact Ok.out | with_reducible refine aV ?_ ?_))
end
theorem IW {v:Sm} (hf:v.om) (s:St):aH Try.prog oc [.agg (bl v)] s (.bool v.fields) s:=by
 refine aH.pure ?_ (by simp [D.bG,D.ok,qp]) rfl s
 unfold S0
 refine aH.Yh v7 rfl fun B Q hB hQ=> ?_
 have⟨hD,hF,hJ,hP⟩:=cf
 refine Sem.seq (b:=QR) (gk ?_)
 repeat' (first
 | simp only [go_sem,hD,hF,hJ,hP]
 | (with_reducible first | refine cq fun hc=> ?_ | refine cr fun hc=> ?_ | refine ct (fun hc=> ?_) fun hc=> ?_) <;> (try simp only [hc,bs, ↓reduceIte]at h) <;> try simp only [hc]
 | (with_reducible refine aL hQ ?_;exact im)
 | (cases h;done))
 refine Sem.seq (b:=QQ) (gk ?_)
 repeat' (first
 | simp only [go_sem,hD,hF,hJ,hP]
 | (with_reducible first | refine cq fun hc=> ?_ | refine cr fun hc=> ?_ | refine ct (fun hc=> ?_) fun hc=> ?_) <;> (try simp only [hc,bs, ↓reduceIte]at h) <;> try simp only [hc]
 | (with_reducible refine aL hQ ?_;exact im)
 | (cases h;done))
 refine Sem.seq (b:=Nw) (gk ?_)
 repeat' (first
 | simp only [go_sem,hD,hF,hJ,hP]
 | (with_reducible first | refine cq fun hc=> ?_ | refine cr fun hc=> ?_ | refine ct (fun hc=> ?_) fun hc=> ?_) <;> (try simp only [hc,bs, ↓reduceIte]at h) <;> try simp only [hc]
 | (with_reducible refine aL hQ ?_;exact im)
 | (cases h;done))
 refine Sem.re _ _ 1 0 (by rw [hB];exact uz rfl) (by rw [hB];exact uz rfl) ?_ ?_ (IV hf hB hQ rfl rfl)
 ·(simp only [go_sem,hD,hF,hJ,hP];repeat' (first | exact Ok.out | with_reducible refine aV ?_ ?_))
 ·(simp only [go_sem,hD,hF,hJ,hP];repeat' (first | exact Ok.out | with_reducible refine aV ?_ ?_))
end Go.Abs

/-! RefMay3 -/

namespace Go.Abs
set_option maxRecDepth 8000
open Go.Proofs
def ig (i:It):List D:= [.int .i64 i.s.id, .int .i64 i.s.kind, .slice .shared 1 (i.s.labels.map encStr), .str i.s.name, .str i.s.proc,
 .int .i64 i.s.x.op, .int .i64 i.s.x.n, .str i.s.x.name, .slice .shared 4 (i.s.x.kids.map bu), .bool i.s.has, .slice .shared 6 (i.s.args.map dm), .slice .shared 13 (i.s.bf.map bl), .slice .shared 13 (i.s.bb.map bl), .int .i64 i.deep, .int .i64 i.dh, .bool i.bb]
theorem NK (i:It):D.bG 0 0 (ig i)=true:=by simp [ig,D.bG,D.ok,Tag.ok,er,J5,DX,rq]
theorem PU (n m:Nat) (l:List It):D.gB n m (l.map ig)=l.map ig:=jo NK n m l
theorem PV (n m:Nat) (i:It):D.e8 n m (ig i)=ig i:=fw n m _ (NK i)
theorem PW (x:It):(ig x).length=16:=nd rfl
theorem NL (x:It):List.take 13 (ig x)=bl x.s:=by simp only [ig,cR];rfl
theorem IX (x:It):(ig x)[0]? = some (.int .i64 x.s.id):=nd rfl
theorem Ge (x:It):(ig x)[13]? = some (.int .i64 x.deep):=nd rfl
attribute [go_sem] PU PV PW NL IX Ge
abbrev Yl (N:Nat):Prop:=∀ (l:List Sm) (deep dh:Int) (bb:Bool) (out:List It),Sm.aT l<N→0≤deep→deep≤13→out.length≤201→∀ {s:St} {t:Nat},s.aq[t]? = some (some out.length)→
 aH Try.prog Bg [.slice .shared 13 (l.map bl), .int .i64 deep, .int .i64 dh, .bool bb, .slice (.tok t) 16 (out.map ig)] s (.slice (.tok t) 16 ((fT deep dh bb out l).map ig)) ⟨s.al,s.aq.set t (some (fT deep dh bb out l).length)⟩
end Go.Abs

/-! RefMay4 -/

namespace Go.Abs
set_option maxRecDepth 8000
open Go.Proofs
structure Pg.om (p:Pg):Prop where
 sz:p.size<4611686018427387000
 Af : ∀ t∈p.globals,t.length<4611686018427387904
 lx : ∀ f∈p.procs,f.name.length<4611686018427387904∧(∀ t∈f.vars,t.length<4611686018427387904)∧(∀ t∈f.fin,t.length<4611686018427387904)∧∀ a∈f.params,a.name.length<4611686018427387904
 items : ∀ i∈p.all,i.s.om
end Go.Abs

/-! TMay3 -/

namespace Go.Abs
set_option maxRecDepth 8000
open Go.Proofs
def gate (nest:Int) (len n:Nat) (r:Bool×Nat):Bool×Nat:=if decide (nest > 12) && decide ((len:Int) > 0)then(false,n)else r
mutual
def Sm.kX (nest:Int) (n:Nat):Sm→Bool×Nat
 | ⟨id,kind,labels,name,proc,x,has,args,bf,bb⟩=>
  if decide (((n+1:Nat):Int) > 200) || id != ((n+1:Nat):Int) || !(cT labels) || !(Sm.fields ⟨id,kind,labels,name,proc,x,has,args,bf,bb⟩)then(false,n+1)
  else if !(gate (nest+1) bf.length (n+1) (Sm.c9 (nest+1) (n+1) bf)).1 then(false,(gate (nest+1) bf.length (n+1) (Sm.c9 (nest+1) (n+1) bf)).2)
  else gate (nest+1) bb.length (gate (nest+1) bf.length (n+1) (Sm.c9 (nest+1) (n+1) bf)).2 (Sm.c9 (nest+1) (gate (nest+1) bf.length (n+1) (Sm.c9 (nest+1) (n+1) bf)).2 bb)
def Sm.c9 (nest:Int) (n:Nat):List Sm→Bool×Nat
 | []=>(true,n)
 | s::l=>if !(Sm.kX nest n s).1 then(false,(Sm.kX nest n s).2)else Sm.c9 nest (Sm.kX nest n s).2 l
end
def Sm.ef (nest:Int) (n:Nat) (l:List Sm):Bool×Nat:=gate nest l.length n (Sm.c9 nest n l)
theorem xi (nest:Int) (n:Nat) (s:Sm):Sm.kX nest n s =
 if decide (((n+1:Nat):Int) > 200) || s.id != ((n+1:Nat):Int) || !(cT s.labels) || !(s.fields)then(false,n+1)
 else if !(Sm.ef (nest+1) (n+1) s.bf).1 then(false,(Sm.ef (nest+1) (n+1) s.bf).2)
 else Sm.ef (nest+1) (Sm.ef (nest+1) (n+1) s.bf).2 s.bb:=by
 cases s;simp only [Sm.kX,Sm.ef];rfl
mutual
def Sm.p6:Sm→Prop
 | ⟨id,kind,labels,name,proc,x,has,args,bf,bb⟩=>Sm.om ⟨id,kind,labels,name,proc,x,has,args,bf,bb⟩∧Sm.gn bf∧Sm.gn bb
def Sm.gn:List Sm→Prop
 | []=>True
 | s::l=>s.p6∧Sm.gn l
end
theorem vb (s:Sm):s.p6↔s.om∧Sm.gn s.bf∧Sm.gn s.bb:=by cases s;simp only [Sm.p6]
theorem wh {s:Sm} : ∀ {l:List Sm},Sm.gn l→s∈l→s.p6
 | y::l,h,m=>by
  simp only [Sm.gn]at h
  rcases List.mem_cons.1 m with rfl | m
  ·exact h.1
  ·exact wh h.2 m
mutual
theorem Lv (nest:Int) (n:Nat) : ∀ s:Sm,n≤201→(Sm.kX nest n s).2≤202∧((Sm.kX nest n s).1=true→(Sm.kX nest n s).2≤200)
 | ⟨id,kind,labels,name,proc,x,has,args,bf,bb⟩,hn=>by
  simp only [Sm.kX]
  split
  ·exact⟨by dsimp only;omega,fun h=>by cases h⟩
  rename_i hc
  simp only [Bool.or_eq_true,decide_eq_true_eq,not_or]at hc
  have sd:n+1≤200:=by omega
  have g1 : ∀ (nest:Int) (l:List Sm) (m:Nat),m≤200→(Sm.c9 nest m l).2≤202∧((Sm.c9 nest m l).1=true→(Sm.c9 nest m l).2≤200)→
   (gate nest l.length m (Sm.c9 nest m l)).2≤202∧((gate nest l.length m (Sm.c9 nest m l)).1=true→(gate nest l.length m (Sm.c9 nest m l)).2≤200):=by
   intro nest l m hm h
   unfold gate
   split
   ·exact⟨by dsimp only;omega,fun h=>by cases h⟩
   ·exact h
  have h1:=g1 (nest+1) bf (n+1) sd (tT (nest+1) (n+1) bf sd)
  split
  ·exact⟨h1.1,fun h=>by cases h⟩
  rename_i LW
  have h2:=h1.2 (by simpa using LW)
  exact g1 (nest+1) bb _ h2 (tT (nest+1) _ bb h2)
theorem tT (nest:Int) (n:Nat) : ∀ l:List Sm,n≤200→(Sm.c9 nest n l).2≤202∧((Sm.c9 nest n l).1=true→(Sm.c9 nest n l).2≤200)
 | [],hn=>by simp only [Sm.c9];exact⟨by omega,fun _=>hn⟩
 | s::l,hn=>by
  simp only [Sm.c9]
  have h1:=Lv nest n s (by omega)
  split
  ·exact⟨h1.1,fun h=>by cases h⟩
  rename_i hc
  exact tT nest _ l (h1.2 (by simpa using hc))
end
theorem xj {nest:Int} {n:Nat} {l:List Sm} (hn:n≤200):(Sm.ef nest n l).2≤202∧((Sm.ef nest n l).1=true→(Sm.ef nest n l).2≤200):=by
 unfold Sm.ef gate
 split
 ·exact⟨by dsimp only;omega,fun h=>by cases h⟩
 ·exact tT nest n l hn
theorem Lw : ∀ (m:Nat) (l:List Sm),Sm.aT l≤m→Sm.aT l<4611686018427387000→Sm.gn l→∀ (nest:Int) (n:Nat),0≤nest→nest≤13→n≤200→
 aH Try.prog gl [.ptr 0 0, .slice .shared 13 (l.map bl), .int .i64 nest] ⟨[[.int .i64 n]],[]⟩ (.bool (Sm.ef nest n l).1) ⟨[[.int .i64 (Sm.ef nest n l).2]],[]⟩:=by
 intro m
 induction m with
 | zero=>
  intro l h hs hf nest n h0 Ym hn
  cases l with
  | nil=>
   have d1:decide ((0:Int) > 0)=false:=rfl
   have e:Sm.ef nest n [] = (true,n):=by simp [Sm.ef,gate,Sm.c9]
   have z:decide ((0:Int)<0)=false:=rfl
   rw [e]
   refine aH.go mn rfl fun B Q hB hQ=> ?_
   have⟨hD,hF,hJ,hP⟩:=cf
   repeat' (first
 | simp only [go_sem,hD,hF,hJ,hP,d1,z]
 | (with_reducible refine bx.yL ?_)
 | (with_reducible first | refine cq fun hc=> ?_ | refine cr fun hc=> ?_ | refine ct (fun hc=> ?_) fun hc=> ?_) <;> (try simp only [hc,bs, ↓reduceIte]at h) <;> try simp only [hc]
 | (with_reducible refine aL hQ ?_;(try cases h);simp only [aE,aF,dj,dk,go_sem,hD,hF,hJ,hP,d1,z];try exact la)
 | (cases h;done))
  | cons s l=>simp only [Sm.aT]at h;omega
 | succ m ih=>
  intro l h hs hf nest n h0 Ym hn
  generalize hR:Sm.ef nest n l=R
  have hlen:=Sm.dt l
  unfold Sm.ef gate at hR
  have h:=hR
  refine aH.go mn rfl fun B Q hB hQ=> ?_
  have⟨hD,hF,hJ,hP⟩:=cf
  repeat' (first
 | simp only [go_sem,hD,hF,hJ,hP]
 | (with_reducible first | refine cq fun hc=> ?_ | refine cr fun hc=> ?_ | refine ct (fun hc=> ?_) fun hc=> ?_) <;> (try simp only [hc,bs, ↓reduceIte]at h) <;> try simp only [hc]
 | (with_reducible refine aL hQ ?_;(try cases h);simp only [aE,aF,dj,dk,go_sem,hD,hF,hJ,hP];repeat' (first | exact Ok.out | with_reducible refine aV ?_ ?_ | (simp;done)))
 | (cases h;done))
  all_goals
   have PX:l≠ []→nest≤12:=by
    intro dC
    have:l.length≠0:=by simpa using dC
    simp_all <;> omega
   refine dM 1 0 (bx.ind (ι:=List Sm×Nat×Nat) (fun i=>l.drop i.2.1=i.1∧Sm.c9 nest i.2.2 i.1=R∧i.2.2≤200) (fun i=>i.1.length)
    (fun i=> [(0, .ptr 0 0),(2, .int .i64 nest),(16, .slice .shared 13 (l.map bl)),(17, .int .i64 (l.length:Int)),(18, .int .i64 (i.2.1:Int))]) (fun i=>⟨[[.int .i64 (i.2.2:Int)]],[]⟩) ?_ (l,0,n) ⟨rfl,h,hn⟩)
   rintro⟨rest,k,j⟩ ⟨h1,h,hj⟩ IH
   dsimp only at h1 h hj
   cases rest with
   | nil=>
    have hD:=drop_nil h1
    simp only [Sm.c9]at h
    repeat' (first
 | simp only [go_sem,hD,hF,hJ,hP]
 | (with_reducible first | refine cq fun hc=> ?_ | refine cr fun hc=> ?_ | refine ct (fun hc=> ?_) fun hc=> ?_) <;> (try simp only [hc,bs, ↓reduceIte]at h) <;> try simp only [hc]
 | (with_reducible refine aL hQ ?_;exact im)
 | (cases h;done))
   | cons s rest=>
    obtain⟨hF,g2,hD,g4⟩:=drop_cons h1
    have hJ:k<4611686018427387904:=by omega
    have kb:=List.mem_of_getElem? hF
    have dr:=Sm.b8 kb
    have ZL:=PX (by rintro rfl;simp at kb)
    obtain⟨vF,Yn,Yo⟩:=(vb s).1 (wh hf kb)
    have R3:Sm.aT s.bf<s.size∧Sm.aT s.bb<s.size:=by cases s;simp only [Sm.size];omega
    have w1:IntKind.wrap .i64 ((j:Int)+1)=((j+1:Nat):Int):=by rw [dg] <;> omega
    have w2:IntKind.wrap .i64 (nest+1)=nest+1:=dg (by omega) (by omega)
    have c1:=fun s=>rC vF.RY vF.Yf s
    have c2:=fun s=>IW vF s
    simp only [Sm.c9,xi]at h
    by_cases Gf:j+1≤200
    ·have r1:=xj (nest:=nest+1) (l:=s.bf) Gf
     have c3:=fun s' ho=>(ih s.bf (by omega) (by omega) Yn (nest+1) (j+1) (by omega) (by omega) Gf).Hq (s:=s') (o:=0) (by simp [D.bG,D.ok,rq,Tag.ok]) rfl rfl rfl ho
     by_cases se:(Sm.ef (nest+1) (j+1) s.bf).1=true
     ·have c4:=fun s' ho=>(ih s.bb (by omega) (by omega) Yo (nest+1) _ (by omega) (by omega) (r1.2 se)).Hq (s:=s') (o:=0) (by simp [D.bG,D.ok,rq,Tag.ok]) rfl rfl rfl ho
      have r2:=xj (nest:=nest+1) (l:=s.bb) (r1.2 se)
      simp only [se]at c3
      simp only [se,Bool.not_true,Bool.false_eq_true, ↓reduceIte]at h
      repeat' (first
 | simp only [go_sem,hD,hF,hJ,hP,w1,w2,se]
 | (with_reducible refine CU (c1 _) ?_)
 | (with_reducible refine CU (c2 _) ?_)
 | (with_reducible refine CU (c3 _ rfl) ?_)
 | (with_reducible refine CU (c4 _ rfl) ?_)
 | (with_reducible first | refine cq fun hc=> ?_ | refine cr fun hc=> ?_ | refine ct (fun hc=> ?_) fun hc=> ?_) <;> (try simp only [hc,bs, ↓reduceIte]at h) <;> try simp only [hc]
 | (with_reducible refine aL hQ ?_;(try cases h);simp only [aE,aF,dj,dk,go_sem,hD,hF,hJ,hP,w1,w2,se];try exact la)
 | (cases h;done))
      refine dM 1 0 (IH (rest,k+1,(Sm.ef (nest+1) (Sm.ef (nest+1) (j+1) s.bf).2 s.bb).2) ⟨g2,h,r2.2 (by assumption)⟩ (Nat.lt_succ_self _))
     ·have se:(Sm.ef (nest+1) (j+1) s.bf).1=false:=by simpa using se
      simp only [se]at c3
      simp only [se,Bool.not_false, ↓reduceIte]at h
      repeat' (first
 | simp only [go_sem,hD,hF,hJ,hP,w1,w2,se]
 | (with_reducible refine CU (c1 _) ?_)
 | (with_reducible refine CU (c2 _) ?_)
 | (with_reducible refine CU (c3 _ rfl) ?_)
 | (with_reducible first | refine cq fun hc=> ?_ | refine cr fun hc=> ?_ | refine ct (fun hc=> ?_) fun hc=> ?_) <;> (try simp only [hc,bs, ↓reduceIte]at h) <;> try simp only [hc]
 | (with_reducible refine aL hQ ?_;(try cases h);simp only [aE,aF,dj,dk,go_sem,hD,hF,hJ,hP,w1,w2,se];try exact la)
 | (cases h;done))
    ·have d1:decide (((j+1:Nat):Int) > 200)=true:=by simp;omega
     simp only [d1,Bool.true_or,Bool.not_false, ↓reduceIte]at h
     repeat' (first
 | simp only [go_sem,hD,hF,hJ,hP,w1,w2,d1]
 | (with_reducible refine CU (c1 _) ?_)
 | (with_reducible refine CU (c2 _) ?_)
 | (with_reducible first | refine cq fun hc=> ?_ | refine cr fun hc=> ?_ | refine ct (fun hc=> ?_) fun hc=> ?_) <;> (try simp only [hc,bs, ↓reduceIte]at h) <;> try simp only [hc]
 | (with_reducible refine aL hQ ?_;(try cases h);simp only [aE,aF,dj,dk,go_sem,hD,hF,hJ,hP,w1,w2,d1];try exact la)
 | (cases h;done))
end Go.Abs

/-! TMay4 -/

namespace Go.Abs
set_option maxRecDepth 8000
open Go.Proofs
def Pc.c9 (n:Nat):List Pc→Bool
 | []=>true
 | f::l=>
  if decide ((f.params.length:Int) > 8) || decide ((f.vars.length:Int) > 16) || !(isName f.name) || !(cT f.vars) || !(cT f.fin)then false
  else if !(Pm.ea f.params)then false
  else if !(Sm.ef 1 n f.body).1 then false
  else Pc.c9 (Sm.ef 1 n f.body).2 l
def Pg.xk (p:Pg):Bool:=
 if decide ((p.globals.length:Int) > 16) || decide ((p.procs.length:Int) > 16) || !(cT p.globals)then false
 else Pc.c9 0 p.procs
structure Pg.yS (p:Pg):Prop where
 sz:p.size<4611686018427387000
 Af : ∀ t∈p.globals,t.length<4611686018427387904
 lx : ∀ f∈p.procs,f.name.length<4611686018427387904∧(∀ t∈f.vars,t.length<4611686018427387904)∧(∀ t∈f.fin,t.length<4611686018427387904)∧∀ a∈f.params,a.name.length<4611686018427387904
 body : ∀ f∈p.procs,Sm.gn f.body
theorem NM {p:Pg} (hf:p.yS) (s:St):aH Try.prog rr [.agg (b7 p)] s (.bool p.xk) s:=by
 refine aH.pure ?_ (by simp only [D.bG,D.ok,lG];rfl) rfl s
 obtain⟨dr,wi,NN,Cv⟩:=hf
 have q4:Pc.aT p.procs<4611686018427387000:=by simp only [Pg.size]at dr;omega
 have PY:p.globals.length<4611686018427387904:=by simp only [Pg.size]at dr;omega
 have Zw:p.procs.length<4611686018427387904:=by have:=Pc.dt p.procs;omega
 have hg:=fun s=>rC PY wi s
 unfold S0
 generalize h:p.xk=R
 unfold Pg.xk at h
 refine aH.go z7 rfl fun B Q hB hQ=> ?_
 have⟨hD,hF,hJ,hP⟩:=cf
 repeat' (first
 | simp only [go_sem,hD,hF,hJ,hP]
 | (with_reducible refine CU (hg _) ?_)
 | (with_reducible first | refine cq fun hc=> ?_ | refine cr fun hc=> ?_ | refine ct (fun hc=> ?_) fun hc=> ?_) <;> (try simp only [hc,bs, ↓reduceIte]at h) <;> try simp only [hc]
 | (with_reducible refine aL hQ ?_;exact im)
 | (cases h;done))
 refine dM 2 0 (bx.ind (ι:=List Pc×Nat×Nat) (fun i=>p.procs.drop i.2.1=i.1∧Pc.c9 i.2.2 i.1=R∧i.2.2≤200) (fun i=>i.1.length)
  (fun i=> [(1, .ptr 0 0),(3, .ptr 1 0),(27, .slice .shared 5 (p.procs.map bP)),(28, .int .i64 (p.procs.length:Int)),(29, .int .i64 (i.2.1:Int))]) (fun i=>⟨[b7 p,[.int .i64 (i.2.2:Int)]],[]⟩) ?_ (p.procs,0,0) ⟨rfl,h,Nat.zero_le _⟩)
 rintro⟨rest,k,n⟩ ⟨h1,h,hn⟩ IH
 dsimp only at h1 h hn
 cases rest with
 | nil=>
  have hD:=drop_nil h1
  simp only [Pc.c9]at h
  repeat' (first
 | simp only [go_sem,hD,hF,hJ,hP]
 | (with_reducible first | refine cq fun hc=> ?_ | refine cr fun hc=> ?_ | refine ct (fun hc=> ?_) fun hc=> ?_) <;> (try simp only [hc,bs, ↓reduceIte]at h) <;> try simp only [hc]
 | (with_reducible refine aL hQ ?_;exact im)
 | (cases h;done))
 | cons f rest=>
  obtain⟨hF,g2,hD,g4⟩:=drop_cons h1
  have bY:k<4611686018427387904:=by omega
  have kb:=List.mem_of_getElem? hF
  have Kj:=Pc.b8 kb
  simp only [Pc.size]at Kj
  obtain⟨sf,Yp,Yq,Yr⟩:=NN f kb
  have Ys:=ti f.name sf
  have hv:=fun s=>rC (by omega) Yp s
  have he:=fun s=>rC (by omega) Yq s
  have hb:=fun s' o ho=>(Lw _ f.body (Nat.le_refl _) (by omega) (Cv f kb) 1 n (by omega) (by omega) hn).Hq (s:=s') (o:=o) (by simp [D.bG,D.ok,rq,Tag.ok]) rfl rfl rfl ho
  have hle:=xj (nest:=1) (l:=f.body) hn
  simp only [Pc.c9]at h
  repeat' (first
 | simp only [go_sem,hD,hF,hJ,hP]
 | (with_reducible refine CU (Ys _) ?_)
 | (with_reducible refine CU (hv _) ?_)
 | (with_reducible refine CU (he _) ?_)
 | (with_reducible first | refine cq fun hc=> ?_ | refine cr fun hc=> ?_ | refine ct (fun hc=> ?_) fun hc=> ?_) <;> (try simp only [hc,bs, ↓reduceIte]at h) <;> try simp only [hc]
 | (with_reducible refine aL hQ ?_;exact im)
 | (cases h;done))
  refine dM 3 0 (bx.ind (ι:=List Pm×Nat) (fun i=>f.params.drop i.2=i.1∧(if !(Pm.ea i.1)then false else if !(Sm.ef 1 n f.body).1 then false else Pc.c9 (Sm.ef 1 n f.body).2 rest)=R) (fun i=>i.1.length)
   (fun i=> [(1, .ptr 0 0),(3, .ptr 1 0),(5, .ptr 2 0),(27, .slice .shared 5 (p.procs.map bP)),(28, .int .i64 (p.procs.length:Int)),(29, .int .i64 (k:Int)),(62, .slice .shared 2 (f.params.map fR)),(63, .int .i64 (f.params.length:Int)),(64, .int .i64 (i.2:Int))]) (fun i=>⟨[b7 p,[.int .i64 (n:Int)],bP f],[]⟩) ?_ (f.params,0) ⟨rfl,h⟩)
  rintro⟨Ee,j⟩ ⟨j1,h⟩ Ag
  dsimp only at j1 h
  cases Ee with
  | nil=>
   have hD:=drop_nil j1
   simp only [Pm.ea,Bool.not_true,Bool.false_eq_true, ↓reduceIte]at h
   repeat' (first
 | simp only [go_sem,hD,hF,hJ,hP]
 | (with_reducible refine CU (hb _ _ rfl) ?_)
 | (with_reducible first | refine cq fun hc=> ?_ | refine cr fun hc=> ?_ | refine ct (fun hc=> ?_) fun hc=> ?_) <;> (try simp only [hc,bs, ↓reduceIte]at h) <;> try simp only [hc]
 | (with_reducible refine aL hQ ?_;exact im)
 | (cases h;done))
   refine ep 2 0 ?_ ?_ (IH (rest,k+1,(Sm.ef 1 n f.body).2) ⟨g2,h,hle.2 (by assumption)⟩ (Nat.lt_succ_self _))
   ·(simp only [go_sem,hD,hF,hJ,hP,aQ bY];try exact bQ)
   ·(simp only [go_sem,hD,hF,hJ,hP,aQ bY];try exact bQ)
  | cons a Ee=>
   obtain⟨hF,b2,hD,b4⟩:=drop_cons j1
   have Gf:j<4611686018427387904:=by omega
   have ha:=ti a.name (Yr a (List.mem_of_getElem? hF))
   simp only [Pm.ea]at h
   repeat' (first
 | simp only [go_sem,hD,hF,hJ,hP]
 | (with_reducible refine CU (ha _) ?_)
 | (with_reducible first | refine cq fun hc=> ?_ | refine cr fun hc=> ?_ | refine ct (fun hc=> ?_) fun hc=> ?_) <;> (try simp only [hc,bs, ↓reduceIte]at h) <;> try simp only [hc]
 | (with_reducible refine aL hQ ?_;exact im)
 | (cases h;done))
   refine ep 3 0 ?_ ?_ (Ag (Ee,j+1) ⟨b2,h⟩ (Nat.lt_succ_self _))
   ·(simp only [go_sem,hD,hF,hJ,hP,aQ Gf];try exact bQ)
   ·(simp only [go_sem,hD,hF,hJ,hP,aQ Gf];try exact bQ)
end Go.Abs

/-! MayFine -/

namespace Go.Abs
theorem rD {s:ax} (h:isName s=true):s.length≤8:=by
 cases s with
 | nil=>simp
 | cons c r=>
  simp only [isName]at h
  split at h
  ·cases h
  ·rename_i hc
   simp only [Bool.or_eq_true,decide_eq_true_eq,not_or]at hc
   simp only [List.length_cons];omega
theorem kF {t:ax} : ∀ {l:List ax},cT l=true→t∈l→isName t=true
 | s::l,h,m=>by
  simp only [cT]at h
  cases hs:isName s
  ·simp [hs]at h
  ·simp [hs]at h
   rcases List.mem_cons.1 m with rfl | m
   ·exact hs
   ·exact kF h m
theorem Ah {a:Ar} : ∀ {l:List Ar},Ar.ea l=true→a∈l→a.may=true
 | s::l,h,m=>by
  simp only [Ar.ea]at h
  cases hs:s.may
  ·simp [hs]at h
  ·simp [hs]at h
   rcases List.mem_cons.1 m with rfl | m
   ·exact hs
   ·exact Ah h m
theorem xS {a:Pm} : ∀ {l:List Pm},Pm.ea l=true→a∈l→isName a.name=true
 | s::l,h,m=>by
  simp only [Pm.ea]at h
  cases hs:isName s.name
  ·simp [hs]at h
  ·simp [hs]at h
   rcases List.mem_cons.1 m with rfl | m
   ·exact hs
   ·exact xS h m
mutual
theorem wj : ∀ x:Ex,x.form=true→x.texts
 | ⟨op,n,name,kids⟩,h=>by
  simp only [Ex.form]at h
  split at h
  ·cases h
  ·rename_i hc
   refine⟨?_,uA kids h⟩
   simp only [Bool.or_eq_true,Bool.and_eq_true,Bool.not_eq_true',not_or,not_and,Bool.not_eq_false]at hc
   cases hn:(name == [])
   ·have:=rD (hc.2 hn);omega
   ·simp at hn;subst hn;simp
theorem uA : ∀ l:List Ex,Ex.nC l=true→Ex.o9 l
 | [],_=>trivial
 | x::l,h=>by
  simp only [Ex.nC]at h
  cases hx:x.form
  ·simp [hx]at h
  ·simp [hx]at h
   exact⟨wj x hx,uA l h⟩
end
theorem xT {x:Ex} (h:x.may=true):x.texts:=by
 unfold Ex.may at h
 simp only [Bool.and_eq_true]at h
 exact wj x h.2
theorem wk {x:Ex} (h:x.none=true):x.texts:=by
 obtain⟨op,n,name,kids⟩:=x
 simp [Ex.none]at h
 obtain⟨⟨_,h1⟩,h2⟩:=h
 subst h1 h2
 exact⟨by simp,trivial⟩
mutual
theorem Gg {deep dh:Int} {bb:Bool} {out:List It} {i:It} : ∀ s:Sm,i∈mr deep dh bb out s→i∈out∨i.s.size≤s.size
 | ⟨id,kind,labels,name,proc,x,has,args,bf,e⟩,h=>by
  simp only [mr]at h
  have key:i∈out++ [(⟨⟨id,kind,labels,name,proc,x,has,args,bf,e⟩,deep,dh,bb⟩:It)]→i∈out∨i.s.size≤(⟨id,kind,labels,name,proc,x,has,args,bf,e⟩:Sm).size:=by
   intro h
   rcases List.mem_append.1 h with h | h
   ·exact .inl h
   ·simp at h;subst h;exact .inr (Nat.le_refl _)
  split at h
  ·rcases p7 e h with h | h
   ·rcases p7 bf h with h | h
    ·exact key h
    ·right;simp only [Sm.size];omega
   ·right;simp only [Sm.size];omega
  ·exact key h
theorem p7 {deep dh:Int} {bb:Bool} {out:List It} {i:It} : ∀ l:List Sm,i∈fT deep dh bb out l→i∈out∨i.s.size<Sm.aT l
 | [],h=>by simp only [fT]at h;exact .inl h
 | s::l,h=>by
  simp only [fT]at h
  split at h
  ·rcases p7 l h with h | h
   ·rcases Gg s h with h | h
    ·exact .inl h
    ·right;simp only [Sm.aT];omega
   ·right;simp only [Sm.aT];omega
  ·exact .inl h
end
theorem Ai {i:It} : ∀ (l:List Pc) (out:List It),i∈allM out l→i∈out∨i.s.size<Pc.aT l
 | [],out,h=>by simp only [allM]at h;exact .inl h
 | f::l,out,h=>by
  have key:i∈out++f.flat→i∈out∨i.s.size<Pc.aT (f::l):=by
   intro h
   rcases List.mem_append.1 h with h | h
   ·exact .inl h
   ·rcases p7 _ h with h | h
    ·simp at h
    ·right;simp only [Pc.aT,Pc.size];omega
  simp only [allM]at h
  split at h
  ·exact key h
  ·rcases Ai l _ h with h | h
   ·exact key h
   ·right;simp only [Pc.aT];omega
theorem wm {i:It} : ∀ (l:List It) (n:Nat),It.ea n l=true→i∈l→i.s.one=true
 | s::l,n,h,m=>by
  simp only [It.ea]at h
  split at h
  ·cases h
  ·rename_i hc
   simp only [Bool.or_eq_true,Bool.not_eq_true',not_or,Bool.not_eq_false]at hc
   rcases List.mem_cons.1 m with rfl | m
   ·exact hc.2
   ·exact wm l (n+1) h m
theorem Aj {s:Sm} (h:s.one=true) (hs:s.size<4611686018427387000):s.om:=by
 unfold Sm.one at h
 split at h
 ·cases h
 split at h
 ·cases h
 split at h
 ·cases h
 split at h
 ·cases h
 rename_i c1 c2 c3 c4
 simp only [Bool.or_eq_true,Bool.and_eq_true,Bool.not_eq_true',not_or,not_and,Bool.not_eq_false,decide_eq_true_eq]at c1 c2 c3 c4
 obtain⟨⟨⟨⟨⟨_,_⟩,R4⟩,cx⟩,cn⟩,_⟩:=c1
 obtain⟨Yt,Yu⟩:=c2
 obtain⟨⟨QT,Yv⟩,c33⟩:=c3
 have nm : ∀ {t:ax},isName t=true→t.length<4611686018427387904:=fun h=>by have:=rD h;omega
 have dr:1+s.labels.length+s.x.size+Ar.aT s.args≤s.size:=by cases s;simp only [Sm.size];omega
 have Ff:=Ar.dt s.args
 refine⟨fun t ht=>nm (kF R4 ht),by omega, ?_, ?_,by omega, ?_,by omega,fun a ha=> ?_⟩
 ·cases hn:s.hasName
  ·cases he:(s.name == [])
   ·exact nm (Yu ⟨hn,he⟩).2
   ·simp at he;rw [he];simp
  ·exact nm (Yt hn)
 ·cases vM:s.qX
  ·rw [vM]at QT
   have:s.proc = []:=by simpa using QT
   rw [this];simp
  ·exact nm (Yv vM)
 ·cases hx:s.Eb
  ·exact wk (cn hx)
  ·exact xT (cx hx)
 ·have hm:=Ah c4 ha
  have Gh:=Ar.b8 ha
  unfold Ar.may at hm
  split at hm
  ·simp only [Bool.and_eq_true]at hm
   exact⟨by omega,wk hm.2,nm hm.1⟩
  ·simp only [Bool.and_eq_true,beq_iff_eq]at hm
   exact⟨by omega,xT hm.2,by rw [hm.1];simp⟩
theorem xU {f:Pc} : ∀ {l:List Pc},Pc.lx l=true→f∈l→isName f.name=true∧cT f.vars=true∧cT f.fin=true∧Pm.ea f.params=true
 | s::l,h,m=>by
  simp only [Pc.lx]at h
  split at h
  ·cases h
  split at h
  ·cases h
  rename_i c1 c2
  simp only [Bool.or_eq_true,Bool.not_eq_true',not_or,Bool.not_eq_false]at c1 c2
  rcases List.mem_cons.1 m with rfl | m
  ·exact⟨c1.1.1.1.1,c1.1.2,c1.2,c2⟩
  ·exact xU h m
theorem IZ {p:Pg} (h:p.may=true) (hs:p.size<4611686018427387000):p.om:=by
 unfold Pg.may at h
 split at h
 ·cases h
 split at h
 ·cases h
 split at h
 ·cases h
 rename_i c1 c2 c3
 simp only [Bool.or_eq_true,Bool.not_eq_true',not_or,Bool.not_eq_false]at c1 c2
 have nm : ∀ {t:ax},isName t=true→t.length<4611686018427387904:=fun h=>by have:=rD h;omega
 refine⟨hs,fun t ht=>nm (kF c1.2 ht),fun f hf=> ?_,fun i hi=> ?_⟩
 ·obtain⟨a,b,c,d⟩:=xU c2 hf
  exact⟨nm a,fun t ht=>nm (kF b ht),fun t ht=>nm (kF c ht),fun t ht=>nm (xS d ht)⟩
 ·refine Aj (wm _ _ h hi) ?_
  rcases Ai _ _ hi with h1 | h1
  ·simp at h1
  ·simp only [Pg.size]at hs;omega
end Go.Abs

/-! MayEq -/

namespace Go.Abs
theorem Gi {t:ax} (h:isName t=true):t≠ []:=by rintro rfl;cases h
theorem I0 (op n:Int) (name:ax) (kids:List Ex):Ex.form ⟨op,n,name,kids⟩=true↔
 lg op=(kids.length:Int)∧(op=1∨n=0)∧0≤n∧(op=2↔name≠ [])∧(name = []∨isName name=true)∧Ex.nC kids=true:=by
 simp only [Ex.form]
 split
 ·rename_i h
  simp only [Bool.or_eq_true,Bool.and_eq_true,bne_iff_ne,ne_eq,decide_eq_true_eq,Bool.not_eq_true']at h
  refine⟨fun h=>(Bool.false_ne_true h).elim,fun⟨h1,h2,h3,h4,h5,_⟩=> ?_⟩
  exfalso
  rcases h with (((h | h) | h) | h) | h
  ·exact h h1
  ·rcases h2 with h2 | h2
   ·exact h.1 h2
   ·exact h.2 h2
  ·omega
  ·by_cases h2:op=2 <;> cases name <;> simp_all
  ·rcases h5 with h5 | h5
   ·subst h5;simp at h
   ·rw [h5]at h;simp at h
 ·rename_i h
  simp only [Bool.or_eq_true,Bool.and_eq_true,bne_iff_ne,ne_eq,decide_eq_true_eq,Bool.not_eq_true',not_or,not_and,Decidable.not_not,Bool.not_eq_false]at h
  obtain⟨⟨⟨⟨h1,h2⟩,h3⟩,h4⟩,h5⟩:=h
  refine⟨fun h=>⟨h1, ?_,by omega, ?_, ?_,h⟩,fun h=>h.2.2.2.2.2⟩
  ·by_cases h:op=1
   ·exact .inl h
   ·exact .inr (h2 h)
  ·by_cases h2:op=2 <;> cases name <;> simp_all
  ·cases name with
   | nil=>exact .inl rfl
   | cons c r=>exact .inr (h5 rfl)
theorem NO (op n:Int) (name:ax) (kids:List Ex) (k:Int):Ex.dp k ⟨op,n,name,kids⟩=true↔
 1≤k∧(kids.length:Int)=lg op∧(if op=1 then 0≤n∧name = []else if op=2 then n=0∧isName name=true else n=0∧name = []∧Ex.we (k - 1) kids=true):=by
 simp only [Ex.dp]
 split
 ·rename_i h
  simp only [Bool.or_eq_true,decide_eq_true_eq,bne_iff_ne,ne_eq]at h
  refine⟨fun h=>(Bool.false_ne_true h).elim,fun⟨h1,h2,_⟩=> ?_⟩
  rcases h with h | h
  ·omega
  ·exact(h h2).elim
 rename_i h
 simp only [Bool.or_eq_true,decide_eq_true_eq,bne_iff_ne,ne_eq,not_or,Decidable.not_not]at h
 have h1:1≤k:=by omega
 simp only [h1,h.2,true_and]
 by_cases o1:op=1
 ·subst o1
  cases name <;> simp
 ·have Yw : ¬ (op==1)=true:=by simpa using o1
  rw [if_neg Yw,if_neg o1]
  by_cases o2:op=2
  ·subst o2;simp
  ·have Yx : ¬ (op==2)=true:=by simpa using o2
   rw [if_neg Yx,if_neg o2]
   by_cases hn:n=0
   ·subst hn
    cases name <;> simp
   ·simp [hn]
mutual
theorem Kk : ∀ (x:Ex) (k:Int),0≤k→(x.dp k=true↔(x.depth:Int)≤k∧x.form=true)
 | ⟨op,n,name,kids⟩,k,hk=>by
  rw [NO,I0]
  have hd:Ex.depth ⟨op,n,name,kids⟩=Ex.ld kids+1:=by simp only [Ex.depth]
  rw [hd]
  by_cases h1:1≤k
  ·have ih:=Gj kids (k - 1) (by omega)
   by_cases o1:op=1
   ·subst o1
    have ha:lg 1=0:=rfl
    rw [ha,if_pos rfl]
    constructor
    ·rintro⟨_,h2,h3,h4⟩
     have:kids = []:=List.eq_nil_of_length_eq_zero (by omega)
     subst this;subst h4
     simp [Ex.ld,Ex.nC,h3];omega
    ·rintro⟨h2,h3,_,h4,h5,_⟩
     refine⟨h1,h3.symm,h4, ?_⟩
     cases name
     ·rfl
     ·simp at h5
   ·rw [if_neg o1]
    by_cases o2:op=2
    ·subst o2
     have ha:lg 2=0:=rfl
     rw [ha,if_pos rfl]
     constructor
     ·rintro⟨_,h2,h3,h4⟩
      have:kids = []:=List.eq_nil_of_length_eq_zero (by omega)
      subst this;subst h3
      have:=Gi h4
      simp [Ex.ld,Ex.nC,h4,this];omega
     ·rintro⟨h2,h3,h4,_,h5,h6,_⟩
      refine⟨h1,h3.symm,h4.resolve_left o1, ?_⟩
      exact h6.resolve_left (h5.1 rfl)
    ·rw [if_neg o2,ih]
     constructor
     ·rintro⟨_,h2,h3,h4,h5,h6⟩
      subst h3;subst h4
      exact⟨by omega,h2.symm, .inr rfl,Int.le_refl _,by simp [o2], .inl rfl,h6⟩
     ·rintro⟨h2,h3,h4,_,h5,h6,h7⟩
      refine⟨h1,h3.symm,h4.resolve_left o1, ?_,by omega,h7⟩
      exact Decidable.byContradiction fun h=>o2 (h5.2 h)
  ·constructor
   ·rintro⟨h,_⟩;exact(h1 h).elim
   ·rintro⟨h,_⟩;omega
theorem Gj : ∀ (l:List Ex) (k:Int),0≤k→(Ex.we k l=true↔(Ex.ld l:Int)≤k∧Ex.nC l=true)
 | [],k,hk=>by simp [Ex.we,Ex.ld,Ex.nC,hk]
 | x::l,k,hk=>by
  have h1:=Kk x k hk
  have h2:=Gj l k hk
  have hd:Ex.ld (x::l)=max x.depth (Ex.ld l):=by simp only [Ex.ld]
  rw [hd]
  simp only [Ex.we,Ex.nC]
  cases hx:Ex.dp k x
  ·simp only [Bool.not_false, ↓reduceIte,Bool.false_eq_true,false_iff,not_and]
   intro h3
   have : ¬ ((x.depth:Int)≤k∧x.form=true):=by rw [← h1,hx];simp
   have hf:x.form=false:=by
    cases hf:x.form
    ·rfl
    ·exact(this ⟨by omega,hf⟩).elim
   simp [hf]
  ·have:=h1.1 hx
   simp only [Bool.not_true,Bool.false_eq_true, ↓reduceIte,this.2,h2]
   have h3:=this.1
   refine and_congr_left fun _=> ?_
   omega
end
theorem Gk (x:Ex):x.dp 20=x.may:=by
 rw [Bool.eq_iff_iff,Kk x 20 (by omega)]
 unfold Ex.may
 simp only [Bool.and_eq_true,decide_eq_true_eq]
 refine and_congr_left fun _=> ?_
 omega
theorem xV (x:Ex) (b:Bool):pe x b=if b then x.may else x.none:=by
 unfold pe
 rw [Gk]
 cases b <;> simp
theorem xW (t:ax) (b:Bool):nV t b=if b then isName t else t == []:=by
 unfold nV
 cases b <;> simp
theorem uB : ∀ l:List Ar,kL l=Ar.ea l
 | []=>rfl
 | a::l=>by
  simp only [kL,Ar.ea,Ar.may,xV,xW,uB l]
  grind
theorem R5 {α:Type} (l:List α):((l.length:Int)==0) = !(decide ((l.length:Int) > 0)):=by
 cases l with
 | nil=>rfl
 | cons a l=>
  have h1:(((a::l).length:Int)==0)=false:=by simp only [List.length_cons,beq_eq_false_iff_ne];omega
  have h2:decide (((a::l).length:Int) > 0)=true:=by simp only [List.length_cons,decide_eq_true_eq];omega
  rw [h1,h2];rfl
theorem wo (s:Sm):s.one=(cT s.labels && s.fields):=by
 have hk:s.kind=1∨s.kind=2∨s.kind=3∨s.kind=4∨s.kind=5∨s.kind=6∨s.kind=7∨s.kind=8∨s.kind=9∨s.kind=10∨s.kind<1∨s.kind > 10:=by omega
 unfold Sm.one Sm.fields Sm.flags Sm.Eb Sm.hasName Sm.qX
 have p1:isName [] = false:=rfl
 rcases hk with h | h | h | h | h | h | h | h | h | h | h | h
 all_goals
  simp only [h,R5,uB,xV,xW,Sm.yR,Sm.yQ]
  grind
end Go.Abs

/-! Nm1 -/

namespace Go.Abs
set_option maxRecDepth 8000
open Go.Proofs
mutual
def Ex.jN (out:List ax):Ex→List ax
 | ⟨op,_,name,kids⟩=>Ex.ij (if op==2 && !(c7 out name)then out++ [name]else out) kids
def Ex.ij (out:List ax):List Ex→List ax
 | []=>out
 | x::l=>Ex.ij (Ex.jN out x) l
end
def Ex.names (x:Ex):List ax:=if x.may then x.jN []else []
mutual
theorem ng (out:List ax) : ∀ x:Ex,(Ex.jN out x).length≤out.length+x.size
 | ⟨op,n,name,kids⟩=>by
  simp only [Ex.jN,Ex.size]
  have h:=xX (if op==2 && !(c7 out name)then out++ [name]else out) kids
  refine Nat.le_trans h ?_
  split <;> simp <;> omega
theorem xX (out:List ax) : ∀ l:List Ex,(Ex.ij out l).length≤out.length+Ex.aT l
 | []=>by simp [Ex.ij,Ex.aT]
 | x::l=>by
  simp only [Ex.ij,Ex.aT]
  have h1:=ng out x
  have h2:=xX (Ex.jN out x) l
  omega
end
def nD (out:List ax) (x:ax):List ax:=if c7 out x then out else out++ [x]
def rE (x:ax):List ax→Bool
 | []=>false
 | s::l=>if s==x then true else rE x l
theorem xY (x:ax) : ∀ l:List ax,rE x l=c7 l x
 | []=>rfl
 | s::l=>by
  have h1:=eH (s::l) x
  have h2:=eH l x
  have h3:=xY x l
  simp only [rE]
  by_cases e:s=x
  ·subst e;simp only [beq_self_eq_true,if_true];exact(h1.2 List.mem_cons_self).symm
  ·have e':(s==x)=false:=by simp [e]
   simp only [e',Bool.false_eq_true,if_false,h3]
   cases ha:c7 l x <;> cases hb:c7 (s::l) x <;> simp_all [Ne.symm e]
abbrev Gl (N:Nat):Prop:=∀ (x:Ex),x.size≤N→∀ out:List ax,out.length+x.size≤1000000000→∀ {s:St} {t:Nat},s.aq[t]? = some (some out.length)→
 aH Try.prog fi [.agg (bu x), .slice (.tok t) 1 (out.map encStr)] s (.slice (.tok t) 1 ((x.jN out).map encStr)) ⟨s.al,s.aq.set t (some (x.jN out).length)⟩
theorem NP {N:Nat} (ih:Gl N) {op m:Int} {name:ax} {kids:List Ex} (h:Ex.size ⟨op,m,name,kids⟩≤N+1) {out:List ax} (ho:out.length+Ex.size ⟨op,m,name,kids⟩≤1000000000) :
 aH Try.prog fi [.agg (bu ⟨op,m,name,kids⟩), .slice (.tok 0) 1 (out.map encStr)] ⟨[],[some out.length]⟩ (.slice (.tok 0) 1 ((Ex.jN out ⟨op,m,name,kids⟩).map encStr)) ⟨[],[some (Ex.jN out ⟨op,m,name,kids⟩).length]⟩:=by
 obtain⟨R,hG⟩ : ∃ R,Ex.jN out ⟨op,m,name,kids⟩=R:=⟨_,rfl⟩
 rw [hG]
 simp only [Ex.jN]at hG
 simp only [Ex.size]at h ho
 have hlen:kids.length<1000000000:=by have:=Ex.dt kids;omega
 have hk : ∀ y∈kids,∀ out:List ax,out.length+y.size≤1000000000→∀ {s:St} {t:Nat},s.aq[t]? = some (some out.length)→
  aH Try.prog fi [.agg (bu y), .slice (.tok t) 1 (out.map encStr)] s (.slice (.tok t) 1 ((y.jN out).map encStr)) ⟨s.al,s.aq.set t (some (y.jN out).length)⟩:=fun y hy out ho=>
  ih y (by have:=Ex.b8 hy;omega) out ho
 refine aH.go mq rfl fun B Q hB hQ=> ?_
 have⟨hD,hF,hJ,hP⟩:=cf
 have hJ:(out.length+1)*17≤bO:=by unfold bO;omega
 rcases Bool.eq_false_or_eq_true (op==2)with b1 | b1
 ·rcases Bool.eq_false_or_eq_true (c7 out name)with b2 | b2
  ·simp only [b1,b2,Bool.not_true,Bool.and_false,Bool.false_eq_true,if_false]at hG
   repeat' (first
 | simp only [go_sem,hD,hF,hJ,hP,b1,b2]
 | (with_reducible refine CU (gI (l:=out) (by omega) name _ _) ?_)
 | (with_reducible refine aL hQ ?_;simp only [aE,aF,Option.some.injEq,exists_eq_left',go_sem,hD,hF,hJ,hP];repeat' (first | exact Ok.out | with_reducible refine aV ?_ ?_ | (simp;done))))
   refine dM 1 1 (bx.ind (ι:=List Ex×Nat×List ax×Nat) (fun i=>kids.drop i.2.1=i.1∧Ex.ij i.2.2.1 i.1=R∧i.2.2.1.length+Ex.aT i.1≤1000000000∧i.2.2.2=i.2.2.1.length) (fun i=>i.1.length)
    (fun i=> [(1, .slice (.tok 0) 1 (i.2.2.1.map encStr)),(2, .ptr 0 0),(23, .slice .shared 4 (kids.map bu)),(24, .int .i64 (kids.length:Int)),(25, .int .i64 (i.2.1:Int))]) (fun i=>⟨[bu ⟨op,m,name,kids⟩],[some i.2.2.2]⟩) ?_ (kids,0,out,out.length) ⟨rfl,hG,by simp;omega,by simp⟩)
   rintro⟨rest,k,bq,n'⟩ ⟨h1,h2,h3,h4⟩ IH
   dsimp only at h1 h2 h3 h4
   subst h4
   cases rest with
   | nil=>
    have hD:=drop_nil h1
    simp only [Ex.ij]at h2
    subst h2
    repeat' (first
 | simp only [go_sem,hD,hF,hJ,hP]
 | (with_reducible refine aL hQ ?_;simp only [aE,aF,Option.some.injEq,exists_eq_left',go_sem,hD,hF,hJ,hP];repeat' (first | exact Ok.out | with_reducible refine aV ?_ ?_ | (simp;done))))
   | cons y rest=>
    obtain⟨hF,g2,hD,g4⟩:=drop_cons h1
    have bY:k<4611686018427387904:=by omega
    simp only [Ex.ij]at h2
    simp only [Ex.aT]at h3
    have hy:=fun {s:St} {t:Nat} (ht:s.aq[t]? = some (some bq.length))=>hk y (List.mem_of_getElem? hF) bq (by omega) ht
    have hl:=ng bq y
    repeat' (first
 | simp only [go_sem,hD,hF,hJ,hP]
 | (with_reducible refine CU (hy (by with_unfolding_all rfl)) ?_)
 | (with_reducible refine aL hQ ?_;simp only [aE,aF,Option.some.injEq,exists_eq_left',go_sem,hD,hF,hJ,hP];repeat' (first | exact Ok.out | with_reducible refine aV ?_ ?_ | (simp;done))))
    refine ep 1 1 ?_ ?_ (IH (rest,k+1,_,_) ⟨g2,h2,by dsimp only;omega,rfl⟩ (Nat.lt_succ_self _))
    ·(simp only [go_sem,hD,hF,hJ,hP,aQ bY];try exact bQ)
    ·(simp only [go_sem,hD,hF,hJ,hP,aQ bY];try exact bQ)
  ·simp only [b1,b2,Bool.not_false,Bool.and_true,if_true]at hG
   repeat' (first
 | simp only [go_sem,hD,hF,hJ,hP,b1,b2]
 | (with_reducible refine CU (gI (l:=out) (by omega) name _ _) ?_)
 | (with_reducible refine aL hQ ?_;simp only [aE,aF,Option.some.injEq,exists_eq_left',go_sem,hD,hF,hJ,hP];repeat' (first | exact Ok.out | with_reducible refine aV ?_ ?_ | (simp;done))))
   refine ep 1 1 ?_ ?_ (bx.ind (ι:=List Ex×Nat×List ax×Nat) (fun i=>kids.drop i.2.1=i.1∧Ex.ij i.2.2.1 i.1=R∧i.2.2.1.length+Ex.aT i.1≤1000000000∧i.2.2.2=i.2.2.1.length) (fun i=>i.1.length)
    (fun i=> [(1, .slice (.tok 0) 1 (i.2.2.1.map encStr)),(2, .ptr 0 0),(23, .slice .shared 4 (kids.map bu)),(24, .int .i64 (kids.length:Int)),(25, .int .i64 (i.2.1:Int))]) (fun i=>⟨[bu ⟨op,m,name,kids⟩],[some i.2.2.2]⟩) ?_ (kids,0,(out++ [name]),(out.length+1)) ⟨rfl,hG,by simp;omega,by simp⟩)
   ·(simp only [go_sem,hD,hF,hJ,hP,List.map_append,List.map_cons,List.map_nil,List.length_append,List.length_cons,List.length_nil,encStr];try exact bQ)
   ·(simp only [go_sem,hD,hF,hJ,hP,List.map_append,List.map_cons,List.map_nil,List.length_append,List.length_cons,List.length_nil,encStr];try exact bQ)
   rintro⟨rest,k,bq,n'⟩ ⟨h1,h2,h3,h4⟩ IH
   dsimp only at h1 h2 h3 h4
   subst h4
   cases rest with
   | nil=>
    have hD:=drop_nil h1
    simp only [Ex.ij]at h2
    subst h2
    repeat' (first
 | simp only [go_sem,hD,hF,hJ,hP]
 | (with_reducible refine aL hQ ?_;simp only [aE,aF,Option.some.injEq,exists_eq_left',go_sem,hD,hF,hJ,hP];repeat' (first | exact Ok.out | with_reducible refine aV ?_ ?_ | (simp;done))))
   | cons y rest=>
    obtain⟨hF,g2,hD,g4⟩:=drop_cons h1
    have bY:k<4611686018427387904:=by omega
    simp only [Ex.ij]at h2
    simp only [Ex.aT]at h3
    have hy:=fun {s:St} {t:Nat} (ht:s.aq[t]? = some (some bq.length))=>hk y (List.mem_of_getElem? hF) bq (by omega) ht
    have hl:=ng bq y
    repeat' (first
 | simp only [go_sem,hD,hF,hJ,hP]
 | (with_reducible refine CU (hy (by with_unfolding_all rfl)) ?_)
 | (with_reducible refine aL hQ ?_;simp only [aE,aF,Option.some.injEq,exists_eq_left',go_sem,hD,hF,hJ,hP];repeat' (first | exact Ok.out | with_reducible refine aV ?_ ?_ | (simp;done))))
    refine ep 1 1 ?_ ?_ (IH (rest,k+1,_,_) ⟨g2,h2,by dsimp only;omega,rfl⟩ (Nat.lt_succ_self _))
    ·(simp only [go_sem,hD,hF,hJ,hP,aQ bY];try exact bQ)
    ·(simp only [go_sem,hD,hF,hJ,hP,aQ bY];try exact bQ)
 ·simp only [b1,Bool.false_and,Bool.false_eq_true,if_false]at hG
  repeat' (first
 | simp only [go_sem,hD,hF,hJ,hP,b1]
 | (with_reducible refine aL hQ ?_;simp only [aE,aF,Option.some.injEq,exists_eq_left',go_sem,hD,hF,hJ,hP];repeat' (first | exact Ok.out | with_reducible refine aV ?_ ?_ | (simp;done))))
  refine dM 1 1 (bx.ind (ι:=List Ex×Nat×List ax×Nat) (fun i=>kids.drop i.2.1=i.1∧Ex.ij i.2.2.1 i.1=R∧i.2.2.1.length+Ex.aT i.1≤1000000000∧i.2.2.2=i.2.2.1.length) (fun i=>i.1.length)
   (fun i=> [(1, .slice (.tok 0) 1 (i.2.2.1.map encStr)),(2, .ptr 0 0),(23, .slice .shared 4 (kids.map bu)),(24, .int .i64 (kids.length:Int)),(25, .int .i64 (i.2.1:Int))]) (fun i=>⟨[bu ⟨op,m,name,kids⟩],[some i.2.2.2]⟩) ?_ (kids,0,out,out.length) ⟨rfl,hG,by simp;omega,by simp⟩)
  rintro⟨rest,k,bq,n'⟩ ⟨h1,h2,h3,h4⟩ IH
  dsimp only at h1 h2 h3 h4
  subst h4
  cases rest with
  | nil=>
   have hD:=drop_nil h1
   simp only [Ex.ij]at h2
   subst h2
   repeat' (first
 | simp only [go_sem,hD,hF,hJ,hP]
 | (with_reducible refine aL hQ ?_;simp only [aE,aF,Option.some.injEq,exists_eq_left',go_sem,hD,hF,hJ,hP];repeat' (first | exact Ok.out | with_reducible refine aV ?_ ?_ | (simp;done))))
  | cons y rest=>
   obtain⟨hF,g2,hD,g4⟩:=drop_cons h1
   have bY:k<4611686018427387904:=by omega
   simp only [Ex.ij]at h2
   simp only [Ex.aT]at h3
   have hy:=fun {s:St} {t:Nat} (ht:s.aq[t]? = some (some bq.length))=>hk y (List.mem_of_getElem? hF) bq (by omega) ht
   have hl:=ng bq y
   repeat' (first
 | simp only [go_sem,hD,hF,hJ,hP]
 | (with_reducible refine CU (hy (by with_unfolding_all rfl)) ?_)
 | (with_reducible refine aL hQ ?_;simp only [aE,aF,Option.some.injEq,exists_eq_left',go_sem,hD,hF,hJ,hP];repeat' (first | exact Ok.out | with_reducible refine aV ?_ ?_ | (simp;done))))
   refine ep 1 1 ?_ ?_ (IH (rest,k+1,_,_) ⟨g2,h2,by dsimp only;omega,rfl⟩ (Nat.lt_succ_self _))
   ·(simp only [go_sem,hD,hF,hJ,hP,aQ bY];try exact bQ)
   ·(simp only [go_sem,hD,hF,hJ,hP,aQ bY];try exact bQ)
theorem I1 : ∀ N,Gl N:=by
 intro N
 induction N with
 | zero=>rintro⟨op,m,name,kids⟩ h;simp only [Ex.size]at h;omega
 | succ N ih=>
  rintro⟨op,m,name,kids⟩ h out ho s t ht
  exact(NP ih h ho).Rw (pre:= [_]) (post:= []) (by simp only [D.bG,D.ok,kc];rfl) rfl (er out) (er _) ht
end Go.Abs

/-! Nm2 -/

namespace Go.Abs
set_option maxRecDepth 8000
open Go.Proofs
theorem Gm {op m:Int} {name:ax} {kids:List Ex} (h:Ex.form ⟨op,m,name,kids⟩=true) (h2:(op==2)=true):kids = []:=by
 have e:op=2:=by simpa using h2
 subst e
 simp only [Ex.form]at h
 split at h
 ·cases h
 ·rename_i hh
  simp only [Bool.or_eq_true,not_or,bne_iff_ne,ne_eq,Decidable.not_not]at hh
  have:=hh.1.1.1.1
  have e:lg 2=0:=rfl
  rw [e]at this
  exact List.length_eq_zero_iff.1 (by omega)
theorem I2 {op m:Int} {name:ax} {kids:List Ex} (hf:(op==2)=true→kids = []) (ho:Ex.size ⟨op,m,name,kids⟩≤1000000000) (s:St) :
 aH Try.prog fi [.agg (bu ⟨op,m,name,kids⟩), .slice .full 0 []] s (.slice .shared 1 ((Ex.jN [] ⟨op,m,name,kids⟩).map encStr)) s:=by
 refine aH.pure ?_ (by simp only [D.bG,D.ok,kc];rfl) (by simp only [D.ok,Tag.ok,er];rfl) s
 obtain⟨R,hG⟩ : ∃ R,Ex.jN [] ⟨op,m,name,kids⟩=R:=⟨_,rfl⟩
 rw [hG]
 simp only [Ex.jN]at hG
 simp only [Ex.size]at ho
 have hlen:kids.length<1000000000:=by have:=Ex.dt kids;omega
 have hk : ∀ y∈kids,∀ out:List ax,out.length+y.size≤1000000000→∀ {s:St} {t:Nat},s.aq[t]? = some (some out.length)→
  aH Try.prog fi [.agg (bu y), .slice (.tok t) 1 (out.map encStr)] s (.slice (.tok t) 1 ((y.jN out).map encStr)) ⟨s.al,s.aq.set t (some (y.jN out).length)⟩:=fun y hy out ho=>
  I1 y.size y (Nat.le_refl _) out ho
 unfold S0
 rcases Bool.eq_false_or_eq_true (op==2)with b1 | b1
 ·have NQ:=hf b1
  subst NQ
  have e:c7 [] name=false:=rfl
  simp only [b1,e,Bool.not_false,Bool.and_true,if_true,Ex.ij,List.nil_append]at hG
  subst hG
  refine aH.go mq rfl fun B Q hB hQ=> ?_
  have⟨hD,hF,hJ,hP⟩:=cf
  have hJ:17≤bO:=by unfold bO;omega
  repeat' (first
 | simp only [go_sem,hD,hF,hJ,hP,b1,List.map_nil,List.map_cons,List.length_nil,encStr,Int.natCast_zero,Int.lt_irrefl,decide_false]
 | (with_reducible refine CU (Ae name _ _ _) ?_)
 | (with_reducible refine bx.yL ?_)
 | (with_reducible refine aL hQ ?_;simp only [aE,aF,Option.some.injEq,exists_eq_left',go_sem,hD,hF,hJ,hP];repeat' (first | exact Ok.out | with_reducible refine aV ?_ ?_ | (simp;done))))
 ·simp only [b1,Bool.false_and,Bool.false_eq_true,if_false]at hG
  refine aH.go mq rfl fun B Q hB hQ=> ?_
  have⟨hD,hF,hJ,hP⟩:=cf
  repeat' (first
 | simp only [go_sem,hD,hF,hJ,hP,b1]
 | (with_reducible refine aL hQ ?_;simp only [aE,aF,Option.some.injEq,exists_eq_left',go_sem,hD,hF,hJ,hP];repeat' (first | exact Ok.out | with_reducible refine aV ?_ ?_ | (simp;done))))
  refine bx.uU 1 1 rfl ?_
  simp only [go_sem,hD,hF,hJ,hP]
  refine dM 1 1 (bx.ind (ι:=List Ex×Nat×List ax×Nat) (fun i=>kids.drop i.2.1=i.1∧Ex.ij i.2.2.1 i.1=R∧i.2.2.1.length+Ex.aT i.1≤1000000000∧i.2.2.2=i.2.2.1.length) (fun i=>i.1.length)
   (fun i=> [(1, .slice (.tok 0) 1 (i.2.2.1.map encStr)),(2, .ptr 0 0),(23, .slice .shared 4 (kids.map bu)),(24, .int .i64 (kids.length:Int)),(25, .int .i64 (i.2.1:Int))]) (fun i=>⟨[bu ⟨op,m,name,kids⟩],[some i.2.2.2]⟩) ?_ (kids,0,[],0) ⟨rfl,hG,by simp;omega,by simp⟩)
  rintro⟨rest,k,bq,n'⟩ ⟨h1,h2,h3,h4⟩ IH
  dsimp only at h1 h2 h3 h4
  subst h4
  cases rest with
  | nil=>
   have hD:=drop_nil h1
   simp only [Ex.ij]at h2
   subst h2
   repeat' (first
 | simp only [go_sem,hD,hF,hJ,hP]
 | (with_reducible refine aL hQ ?_;simp only [aE,aF,Option.some.injEq,exists_eq_left',go_sem,hD,hF,hJ,hP];repeat' (first | exact Ok.out | with_reducible refine aV ?_ ?_ | (simp;done))))
  | cons y rest=>
   obtain⟨hF,g2,hD,g4⟩:=drop_cons h1
   have bY:k<4611686018427387904:=by omega
   simp only [Ex.ij]at h2
   simp only [Ex.aT]at h3
   have hy:=fun {s:St} {t:Nat} (ht:s.aq[t]? = some (some bq.length))=>hk y (List.mem_of_getElem? hF) bq (by omega) ht
   have hl:=ng bq y
   repeat' (first
 | simp only [go_sem,hD,hF,hJ,hP]
 | (with_reducible refine CU (hy (by with_unfolding_all rfl)) ?_)
 | (with_reducible refine aL hQ ?_;simp only [aE,aF,Option.some.injEq,exists_eq_left',go_sem,hD,hF,hJ,hP];repeat' (first | exact Ok.out | with_reducible refine aV ?_ ?_ | (simp;done))))
   refine ep 1 1 ?_ ?_ (IH (rest,k+1,_,_) ⟨g2,h2,by dsimp only;omega,rfl⟩ (Nat.lt_succ_self _))
   ·(simp only [go_sem,hD,hF,hJ,hP,aQ bY];try exact bQ)
   ·(simp only [go_sem,hD,hF,hJ,hP,aQ bY];try exact bQ)
theorem jv {x:Ex} (hx:x.size≤1000000000) (ht:x.texts) (s:St):aH Try.prog mf [.agg (bu x)] s (.slice .shared 1 (x.names.map encStr)) s:=by
 refine aH.pure ?_ (by simp only [D.bG,D.ok,kc];rfl) (by simp only [D.ok,Tag.ok,er];rfl) s
 have hm:=fun s=>wg (x:=x) (by omega) ht s
 simp only [Gk]at hm
 unfold Ex.names
 unfold S0
 cases hb:x.may
 ·simp only [hb]at hm
  simp only [Bool.false_eq_true,if_false,List.map_nil]
  refine aH.go qV rfl fun B Q hB hQ=> ?_
  have⟨hD,hF,hJ,hP⟩:=cf
  repeat' (first
 | simp only [go_sem,hD,hF,hJ,hP]
 | (with_reducible refine CU (hm _) ?_)
 | (with_reducible refine aL hQ ?_;simp only [aE,aF,Option.some.injEq,exists_eq_left',go_sem,hD,hF,hJ,hP];repeat' (first | exact Ok.out | with_reducible refine aV ?_ ?_ | (simp;done))))
 ·simp only [hb]at hm
  simp only [if_true]
  have hg : ∀ s,aH Try.prog fi [.agg (bu x), .slice .full 0 []] s (.slice .shared 1 ((x.jN []).map encStr)) s:=by
   intro s
   obtain⟨op,m,name,kids⟩:=x
   exact I2 (fun h2=>Gm (by simp only [Ex.may,Bool.and_eq_true]at hb;exact hb.2) h2) hx s
  refine aH.go qV rfl fun B Q hB hQ=> ?_
  have⟨hD,hF,hJ,hP⟩:=cf
  repeat' (first
 | simp only [go_sem,hD,hF,hJ,hP]
 | (with_reducible refine CU (hm _) ?_)
 | (with_reducible refine CU (hg _) ?_)
 | (with_reducible refine aL hQ ?_;simp only [aE,aF,Option.some.injEq,exists_eq_left',go_sem,hD,hF,hJ,hP];repeat' (first | exact Ok.out | with_reducible refine aV ?_ ?_ | (simp;done))))
end Go.Abs

/-! Nm3 -/

namespace Go.Abs
set_option maxRecDepth 8000
open Go.Proofs
def Ar.said (out:List ax):List Ar→List ax
 | []=>out
 | a::l=>Ar.said ((if a.ref then out++ [a.name]else out)++a.x.names) l
def Sm.oH (v:Sm):List ax:=if v.kind != 10 && v.name != []then [v.name]else []
def Sm.said (v:Sm):List ax:=Ar.said (v.oH++v.x.names) v.args
theorem gO (x:Ex):x.names.length≤x.size:=by
 unfold Ex.names
 split
 ·simpa using ng [] x
 ·exact Nat.zero_le _
def Ar.o9:List Ar→Prop
 | []=>True
 | a::l=>a.x.texts∧Ar.o9 l
def Sm.pf (v:Sm):Prop:=v.x.texts∧(∀ a∈v.args,a.x.texts)∧v.x.size+Ar.aT v.args<1000000
theorem gw {l nx:List ax} {n:Nat} (hn:n=l.length) (h:l.length+nx.length≤1000000000) {g:Tag} (o:List (List D)) :
 kq 1 16 (.slice (.tok 0) 1 (l.map encStr)) (.slice g 1 (nx.map encStr)) ⟨o,[some n]⟩=some (.slice (.tok 0) 1 ((l++nx).map encStr),⟨o,[some (l++nx).length]⟩):=by
 subst hn
 have:=H2 (size:=1) (bytes:=16) (t:=0) (rows:=l.map encStr) (new:=nx.map encStr) (g:=g) (s:=⟨o,[some l.length]⟩) (by simp only [List.length_map];unfold bO;omega) (by simp)
 rw [this]
 simp
theorem tj {v:Sm} (hv:v.pf) (s:St):aH Try.prog mc [.agg (bl v)] s (.slice .shared 1 (v.said.map encStr)) s:=by
 refine aH.pure ?_ (by simp only [D.bG,D.ok,qp];rfl) (by simp only [D.ok,Tag.ok,er];rfl) s
 obtain⟨Yy,Gn,dr⟩:=hv
 obtain⟨R,hG⟩ : ∃ R,v.said=R:=⟨_,rfl⟩
 rw [hG]
 simp only [Sm.said]at hG
 have hlen:v.args.length<1000000000:=by have:=Ar.dt v.args;omega
 have hx:=fun s=>jv (x:=v.x) (by omega) Yy s
 have BO:=gO v.x
 unfold S0
 refine aH.go w9 rfl fun B Q hB hQ=> ?_
 have⟨hD,hF,hJ,hP⟩:=cf
 have hJ:17≤bO:=by unfold bO;omega
 by_cases hb:(v.kind != 10 && v.name != [])=true
 ·simp only [Sm.oH,hb,if_true]at hG
  rw [Bool.and_eq_true]at hb
  obtain⟨b1,b2⟩:=hb
  have ek:=gw (l:= [v.name]) (nx:=v.x.names) (n:=1) rfl (by simp;omega) (g:= .shared)
  simp only [List.map_append,List.map_cons,List.map_nil,encStr]at ek
  have b3:(v.name == [])=false:=by simpa using b2
  repeat' (first
 | simp only [go_sem,hD,hF,hJ,hP,b1,b2,b3,ek]
 | (with_reducible refine CU (hx _) ?_)
 | (with_reducible refine aL hQ ?_;simp only [aE,aF,Option.some.injEq,exists_eq_left',go_sem,hD,hF,hJ,hP];repeat' (first | exact Ok.out | with_reducible refine aV ?_ ?_ | (simp;done))))
  refine ep 1 1 ?_ ?_ (bx.ind (ι:=List Ar×Nat×List ax×Nat) (fun i=>v.args.drop i.2.1=i.1∧Ar.said i.2.2.1 i.1=R∧i.2.2.1.length+Ar.aT i.1≤2000000∧i.2.2.2=i.2.2.1.length) (fun i=>i.1.length)
   (fun i=> [(3, .slice (.tok 0) 1 (i.2.2.1.map encStr)),(1, .ptr 0 0),(25, .slice .shared 6 (v.args.map dm)),(26, .int .i64 (v.args.length:Int)),(27, .int .i64 (i.2.1:Int))]) (fun i=>⟨[bl v],[some i.2.2.2]⟩) ?_ (v.args,0,([v.name]++v.x.names),(v.x.names.length+1)) ⟨rfl,hG,by simp at BO ⊢;omega,by simp⟩)
  ·(simp only [go_sem,hD,hF,hJ,hP,List.map_append,List.map_cons,List.map_nil,encStr];try exact bQ)
  ·(simp only [go_sem,hD,hF,hJ,hP,List.map_append,List.map_cons,List.map_nil,encStr];try exact bQ)
  rintro⟨rest,k,out,n'⟩ ⟨h1,h2,h3,h4⟩ IH
  dsimp only at h1 h2 h3 h4
  subst h4
  cases rest with
  | nil=>
   have hD:=drop_nil h1
   simp only [Ar.said]at h2
   subst h2
   repeat' (first
 | simp only [go_sem,hD,hF,hJ,hP]
 | (with_reducible refine aL hQ ?_;simp only [aE,aF,Option.some.injEq,exists_eq_left',go_sem,hD,hF,hJ,hP];repeat' (first | exact Ok.out | with_reducible refine aV ?_ ?_ | (simp;done))))
  | cons a rest=>
   obtain⟨hF,g2,hD,g4⟩:=drop_cons h1
   have bY:k<4611686018427387904:=by omega
   simp only [Ar.said]at h2
   simp only [Ar.aT]at h3
   have p8:=fun s=>jv (x:=a.x) (by have:=Ar.b8 (List.mem_of_getElem? hF);omega) (Gn a (List.mem_of_getElem? hF)) s
   have hl:=gO a.x
   have hJ:(out.length+1)*17≤bO:=by unfold bO;omega
   rcases Bool.eq_false_or_eq_true a.ref with b1 | b1
   ·simp only [b1,if_true]at h2
    have ek:=gw (l:=out++ [a.name]) (nx:=a.x.names) (n:=out.length+1) (by simp) (by simp;omega) (g:= .shared)
    simp only [List.map_append,List.map_cons,List.map_nil,encStr]at ek
    repeat' (first
 | simp only [go_sem,hD,hF,hJ,hP,b1,ek]
 | (with_reducible refine CU (p8 _) ?_)
 | (with_reducible refine aL hQ ?_;simp only [aE,aF,Option.some.injEq,exists_eq_left',go_sem,hD,hF,hJ,hP];repeat' (first | exact Ok.out | with_reducible refine aV ?_ ?_ | (simp;done))))
    refine ep 1 1 ?_ ?_ (IH (rest,k+1,out++ [a.name]++a.x.names,_) ⟨g2,h2,by simp;omega,by simp <;> omega⟩ (Nat.lt_succ_self _))
    ·(simp only [go_sem,hD,hF,hJ,hP,aQ bY,List.map_append,List.map_cons,List.map_nil,encStr];try exact bQ)
    ·(simp only [go_sem,hD,hF,hJ,hP,aQ bY,List.map_append,List.map_cons,List.map_nil,encStr];try exact bQ)
   ·simp only [b1,Bool.false_eq_true,if_false]at h2
    have ek:=gw (l:=out) (nx:=a.x.names) rfl (by omega) (g:= .shared)
    repeat' (first
 | simp only [go_sem,hD,hF,hJ,hP,b1,ek]
 | (with_reducible refine CU (p8 _) ?_)
 | (with_reducible refine aL hQ ?_;simp only [aE,aF,Option.some.injEq,exists_eq_left',go_sem,hD,hF,hJ,hP];repeat' (first | exact Ok.out | with_reducible refine aV ?_ ?_ | (simp;done))))
    refine ep 1 1 ?_ ?_ (IH (rest,k+1,out++a.x.names,_) ⟨g2,h2,by simp;omega,by simp <;> omega⟩ (Nat.lt_succ_self _))
    ·(simp only [go_sem,hD,hF,hJ,hP,aQ bY];try exact bQ)
    ·(simp only [go_sem,hD,hF,hJ,hP,aQ bY];try exact bQ)
 ·simp only [Sm.oH,hb,Bool.false_eq_true,if_false,List.nil_append]at hG
  have pM:(v.kind != 10 && v.name != [])=false:=by simpa using hb
  obtain⟨nx,QU⟩ : ∃ nx,nx=v.x.names:=⟨_,rfl⟩
  rw [← QU]at hG BO
  simp only [← QU]at hx
  by_cases zp:nx = []
  ·subst zp
   simp only [List.map_nil]at hx
   have ek : ∀ o:List (List D),kq 1 16 (.slice .full 0 []) (.slice .shared 1 []) ⟨o,[]⟩=some (.slice .full 0 [],⟨o,[]⟩):=fun o=>by simp [kq,bO]
   have HB:(v.kind != 10)=false∨(v.kind != 10)=true∧(v.name != [])=false:=by
    cases h1:(v.kind != 10)
    ·exact .inl rfl
    ·rw [h1]at pM;exact .inr ⟨rfl,by simpa using pM⟩
   rcases HB with b1 | ⟨b1,b2⟩
   ·rcases Bool.eq_false_or_eq_true (v.name != [])with b2 | b2
    all_goals
     have b3:(v.name == []) = !(v.name != []):=by simp only [bne,Bool.not_not]
     rw [b2]at b3
     repeat' (first
 | simp only [go_sem,hD,hF,hJ,hP,b1,b2,b3,Bool.not_true,Bool.not_false,ek]
 | (with_reducible refine CU (hx _) ?_)
 | (with_reducible refine aL hQ ?_;simp only [aE,aF,Option.some.injEq,exists_eq_left',go_sem,hD,hF,hJ,hP];repeat' (first | exact Ok.out | with_reducible refine aV ?_ ?_ | (simp;done))))
    all_goals
     refine bx.uU 3 1 rfl ?_
     simp only [go_sem,hD,hF,hJ,hP]
     refine dM 1 1 (bx.ind (ι:=List Ar×Nat×List ax×Nat) (fun i=>v.args.drop i.2.1=i.1∧Ar.said i.2.2.1 i.1=R∧i.2.2.1.length+Ar.aT i.1≤2000000∧i.2.2.2=i.2.2.1.length) (fun i=>i.1.length)
      (fun i=> [(3, .slice (.tok 0) 1 (i.2.2.1.map encStr)),(1, .ptr 0 0),(25, .slice .shared 6 (v.args.map dm)),(26, .int .i64 (v.args.length:Int)),(27, .int .i64 (i.2.1:Int))]) (fun i=>⟨[bl v],[some i.2.2.2]⟩) ?_ (v.args,0,[],0) ⟨rfl,hG,by simp at BO ⊢;omega,by simp⟩)
     rintro⟨rest,k,out,n'⟩ ⟨h1,h2,h3,h4⟩ IH
     dsimp only at h1 h2 h3 h4
     subst h4
     cases rest with
     | nil=>
      have hD:=drop_nil h1
      simp only [Ar.said]at h2
      subst h2
      repeat' (first
 | simp only [go_sem,hD,hF,hJ,hP]
 | (with_reducible refine aL hQ ?_;simp only [aE,aF,Option.some.injEq,exists_eq_left',go_sem,hD,hF,hJ,hP];repeat' (first | exact Ok.out | with_reducible refine aV ?_ ?_ | (simp;done))))
     | cons a rest=>
      obtain⟨hF,g2,hD,g4⟩:=drop_cons h1
      have bY:k<4611686018427387904:=by omega
      simp only [Ar.said]at h2
      simp only [Ar.aT]at h3
      have p8:=fun s=>jv (x:=a.x) (by have:=Ar.b8 (List.mem_of_getElem? hF);omega) (Gn a (List.mem_of_getElem? hF)) s
      have hl:=gO a.x
      have hJ:(out.length+1)*17≤bO:=by unfold bO;omega
      rcases Bool.eq_false_or_eq_true a.ref with b1 | b1
      ·simp only [b1,if_true]at h2
       have ek:=gw (l:=out++ [a.name]) (nx:=a.x.names) (n:=out.length+1) (by simp) (by simp;omega) (g:= .shared)
       simp only [List.map_append,List.map_cons,List.map_nil,encStr]at ek
       repeat' (first
 | simp only [go_sem,hD,hF,hJ,hP,b1,ek]
 | (with_reducible refine CU (p8 _) ?_)
 | (with_reducible refine aL hQ ?_;simp only [aE,aF,Option.some.injEq,exists_eq_left',go_sem,hD,hF,hJ,hP];repeat' (first | exact Ok.out | with_reducible refine aV ?_ ?_ | (simp;done))))
       refine ep 1 1 ?_ ?_ (IH (rest,k+1,out++ [a.name]++a.x.names,_) ⟨g2,h2,by simp;omega,by simp <;> omega⟩ (Nat.lt_succ_self _))
       ·(simp only [go_sem,hD,hF,hJ,hP,aQ bY,List.map_append,List.map_cons,List.map_nil,encStr];try exact bQ)
       ·(simp only [go_sem,hD,hF,hJ,hP,aQ bY,List.map_append,List.map_cons,List.map_nil,encStr];try exact bQ)
      ·simp only [b1,Bool.false_eq_true,if_false]at h2
       have ek:=gw (l:=out) (nx:=a.x.names) rfl (by omega) (g:= .shared)
       repeat' (first
 | simp only [go_sem,hD,hF,hJ,hP,b1,ek]
 | (with_reducible refine CU (p8 _) ?_)
 | (with_reducible refine aL hQ ?_;simp only [aE,aF,Option.some.injEq,exists_eq_left',go_sem,hD,hF,hJ,hP];repeat' (first | exact Ok.out | with_reducible refine aV ?_ ?_ | (simp;done))))
       refine ep 1 1 ?_ ?_ (IH (rest,k+1,out++a.x.names,_) ⟨g2,h2,by simp;omega,by simp <;> omega⟩ (Nat.lt_succ_self _))
       ·(simp only [go_sem,hD,hF,hJ,hP,aQ bY];try exact bQ)
       ·(simp only [go_sem,hD,hF,hJ,hP,aQ bY];try exact bQ)
   ·have b3:(v.name == [])=true:=by simpa using b2
    repeat' (first
 | simp only [go_sem,hD,hF,hJ,hP,b1,b2,b3,ek]
 | (with_reducible refine CU (hx _) ?_)
 | (with_reducible refine aL hQ ?_;simp only [aE,aF,Option.some.injEq,exists_eq_left',go_sem,hD,hF,hJ,hP];repeat' (first | exact Ok.out | with_reducible refine aV ?_ ?_ | (simp;done))))
    refine bx.uU 3 1 rfl ?_
    simp only [go_sem,hD,hF,hJ,hP]
    refine dM 1 1 (bx.ind (ι:=List Ar×Nat×List ax×Nat) (fun i=>v.args.drop i.2.1=i.1∧Ar.said i.2.2.1 i.1=R∧i.2.2.1.length+Ar.aT i.1≤2000000∧i.2.2.2=i.2.2.1.length) (fun i=>i.1.length)
     (fun i=> [(3, .slice (.tok 0) 1 (i.2.2.1.map encStr)),(1, .ptr 0 0),(25, .slice .shared 6 (v.args.map dm)),(26, .int .i64 (v.args.length:Int)),(27, .int .i64 (i.2.1:Int))]) (fun i=>⟨[bl v],[some i.2.2.2]⟩) ?_ (v.args,0,[],0) ⟨rfl,hG,by simp at BO ⊢;omega,by simp⟩)
    rintro⟨rest,k,out,n'⟩ ⟨h1,h2,h3,h4⟩ IH
    dsimp only at h1 h2 h3 h4
    subst h4
    cases rest with
    | nil=>
     have hD:=drop_nil h1
     simp only [Ar.said]at h2
     subst h2
     repeat' (first
 | simp only [go_sem,hD,hF,hJ,hP]
 | (with_reducible refine aL hQ ?_;simp only [aE,aF,Option.some.injEq,exists_eq_left',go_sem,hD,hF,hJ,hP];repeat' (first | exact Ok.out | with_reducible refine aV ?_ ?_ | (simp;done))))
    | cons a rest=>
     obtain⟨hF,g2,hD,g4⟩:=drop_cons h1
     have bY:k<4611686018427387904:=by omega
     simp only [Ar.said]at h2
     simp only [Ar.aT]at h3
     have p8:=fun s=>jv (x:=a.x) (by have:=Ar.b8 (List.mem_of_getElem? hF);omega) (Gn a (List.mem_of_getElem? hF)) s
     have hl:=gO a.x
     have hJ:(out.length+1)*17≤bO:=by unfold bO;omega
     rcases Bool.eq_false_or_eq_true a.ref with b1 | b1
     ·simp only [b1,if_true]at h2
      have ek:=gw (l:=out++ [a.name]) (nx:=a.x.names) (n:=out.length+1) (by simp) (by simp;omega) (g:= .shared)
      simp only [List.map_append,List.map_cons,List.map_nil,encStr]at ek
      repeat' (first
 | simp only [go_sem,hD,hF,hJ,hP,b1,ek]
 | (with_reducible refine CU (p8 _) ?_)
 | (with_reducible refine aL hQ ?_;simp only [aE,aF,Option.some.injEq,exists_eq_left',go_sem,hD,hF,hJ,hP];repeat' (first | exact Ok.out | with_reducible refine aV ?_ ?_ | (simp;done))))
      refine ep 1 1 ?_ ?_ (IH (rest,k+1,out++ [a.name]++a.x.names,_) ⟨g2,h2,by simp;omega,by simp <;> omega⟩ (Nat.lt_succ_self _))
      ·(simp only [go_sem,hD,hF,hJ,hP,aQ bY,List.map_append,List.map_cons,List.map_nil,encStr];try exact bQ)
      ·(simp only [go_sem,hD,hF,hJ,hP,aQ bY,List.map_append,List.map_cons,List.map_nil,encStr];try exact bQ)
     ·simp only [b1,Bool.false_eq_true,if_false]at h2
      have ek:=gw (l:=out) (nx:=a.x.names) rfl (by omega) (g:= .shared)
      repeat' (first
 | simp only [go_sem,hD,hF,hJ,hP,b1,ek]
 | (with_reducible refine CU (p8 _) ?_)
 | (with_reducible refine aL hQ ?_;simp only [aE,aF,Option.some.injEq,exists_eq_left',go_sem,hD,hF,hJ,hP];repeat' (first | exact Ok.out | with_reducible refine aV ?_ ?_ | (simp;done))))
      refine ep 1 1 ?_ ?_ (IH (rest,k+1,out++a.x.names,_) ⟨g2,h2,by simp;omega,by simp <;> omega⟩ (Nat.lt_succ_self _))
      ·(simp only [go_sem,hD,hF,hJ,hP,aQ bY];try exact bQ)
      ·(simp only [go_sem,hD,hF,hJ,hP,aQ bY];try exact bQ)
  ·have ek : ∀ o:List (List D),kq 1 16 (.slice .full 0 []) (.slice .shared 1 (nx.map encStr)) ⟨o,[]⟩=some (.slice (.tok 0) 1 (nx.map encStr),⟨o,[some nx.length]⟩):=fun o=>by
    have:nx.length*17≤bO:=by unfold bO;omega
    cases nx with
    | nil=>exact absurd rfl zp
    | cons a r=>simp only [List.length_cons]at this;simp [kq,this]
   have HB:(v.kind != 10)=false∨(v.kind != 10)=true∧(v.name != [])=false:=by
    cases h1:(v.kind != 10)
    ·exact .inl rfl
    ·rw [h1]at pM;exact .inr ⟨rfl,by simpa using pM⟩
   rcases HB with b1 | ⟨b1,b2⟩
   ·rcases Bool.eq_false_or_eq_true (v.name != [])with b2 | b2
    all_goals
     have b3:(v.name == []) = !(v.name != []):=by simp only [bne,Bool.not_not]
     rw [b2]at b3
     repeat' (first
 | simp only [go_sem,hD,hF,hJ,hP,b1,b2,b3,Bool.not_true,Bool.not_false,ek]
 | (with_reducible refine CU (hx _) ?_)
 | (with_reducible refine aL hQ ?_;simp only [aE,aF,Option.some.injEq,exists_eq_left',go_sem,hD,hF,hJ,hP];repeat' (first | exact Ok.out | with_reducible refine aV ?_ ?_ | (simp;done))))
    all_goals
     refine dM 1 1 (bx.ind (ι:=List Ar×Nat×List ax×Nat) (fun i=>v.args.drop i.2.1=i.1∧Ar.said i.2.2.1 i.1=R∧i.2.2.1.length+Ar.aT i.1≤2000000∧i.2.2.2=i.2.2.1.length) (fun i=>i.1.length)
      (fun i=> [(3, .slice (.tok 0) 1 (i.2.2.1.map encStr)),(1, .ptr 0 0),(25, .slice .shared 6 (v.args.map dm)),(26, .int .i64 (v.args.length:Int)),(27, .int .i64 (i.2.1:Int))]) (fun i=>⟨[bl v],[some i.2.2.2]⟩) ?_ (v.args,0,nx,_) ⟨rfl,hG,by simp at BO ⊢;omega,by simp⟩)
     rintro⟨rest,k,out,n'⟩ ⟨h1,h2,h3,h4⟩ IH
     dsimp only at h1 h2 h3 h4
     subst h4
     cases rest with
     | nil=>
      have hD:=drop_nil h1
      simp only [Ar.said]at h2
      subst h2
      repeat' (first
 | simp only [go_sem,hD,hF,hJ,hP]
 | (with_reducible refine aL hQ ?_;simp only [aE,aF,Option.some.injEq,exists_eq_left',go_sem,hD,hF,hJ,hP];repeat' (first | exact Ok.out | with_reducible refine aV ?_ ?_ | (simp;done))))
     | cons a rest=>
      obtain⟨hF,g2,hD,g4⟩:=drop_cons h1
      have bY:k<4611686018427387904:=by omega
      simp only [Ar.said]at h2
      simp only [Ar.aT]at h3
      have p8:=fun s=>jv (x:=a.x) (by have:=Ar.b8 (List.mem_of_getElem? hF);omega) (Gn a (List.mem_of_getElem? hF)) s
      have hl:=gO a.x
      have hJ:(out.length+1)*17≤bO:=by unfold bO;omega
      rcases Bool.eq_false_or_eq_true a.ref with b1 | b1
      ·simp only [b1,if_true]at h2
       have ek:=gw (l:=out++ [a.name]) (nx:=a.x.names) (n:=out.length+1) (by simp) (by simp;omega) (g:= .shared)
       simp only [List.map_append,List.map_cons,List.map_nil,encStr]at ek
       repeat' (first
 | simp only [go_sem,hD,hF,hJ,hP,b1,ek]
 | (with_reducible refine CU (p8 _) ?_)
 | (with_reducible refine aL hQ ?_;simp only [aE,aF,Option.some.injEq,exists_eq_left',go_sem,hD,hF,hJ,hP];repeat' (first | exact Ok.out | with_reducible refine aV ?_ ?_ | (simp;done))))
       refine ep 1 1 ?_ ?_ (IH (rest,k+1,out++ [a.name]++a.x.names,_) ⟨g2,h2,by simp;omega,by simp <;> omega⟩ (Nat.lt_succ_self _))
       ·(simp only [go_sem,hD,hF,hJ,hP,aQ bY,List.map_append,List.map_cons,List.map_nil,encStr];try exact bQ)
       ·(simp only [go_sem,hD,hF,hJ,hP,aQ bY,List.map_append,List.map_cons,List.map_nil,encStr];try exact bQ)
      ·simp only [b1,Bool.false_eq_true,if_false]at h2
       have ek:=gw (l:=out) (nx:=a.x.names) rfl (by omega) (g:= .shared)
       repeat' (first
 | simp only [go_sem,hD,hF,hJ,hP,b1,ek]
 | (with_reducible refine CU (p8 _) ?_)
 | (with_reducible refine aL hQ ?_;simp only [aE,aF,Option.some.injEq,exists_eq_left',go_sem,hD,hF,hJ,hP];repeat' (first | exact Ok.out | with_reducible refine aV ?_ ?_ | (simp;done))))
       refine ep 1 1 ?_ ?_ (IH (rest,k+1,out++a.x.names,_) ⟨g2,h2,by simp;omega,by simp <;> omega⟩ (Nat.lt_succ_self _))
       ·(simp only [go_sem,hD,hF,hJ,hP,aQ bY];try exact bQ)
       ·(simp only [go_sem,hD,hF,hJ,hP,aQ bY];try exact bQ)
   ·have b3:(v.name == [])=true:=by simpa using b2
    repeat' (first
 | simp only [go_sem,hD,hF,hJ,hP,b1,b2,b3,ek]
 | (with_reducible refine CU (hx _) ?_)
 | (with_reducible refine aL hQ ?_;simp only [aE,aF,Option.some.injEq,exists_eq_left',go_sem,hD,hF,hJ,hP];repeat' (first | exact Ok.out | with_reducible refine aV ?_ ?_ | (simp;done))))
    refine dM 1 1 (bx.ind (ι:=List Ar×Nat×List ax×Nat) (fun i=>v.args.drop i.2.1=i.1∧Ar.said i.2.2.1 i.1=R∧i.2.2.1.length+Ar.aT i.1≤2000000∧i.2.2.2=i.2.2.1.length) (fun i=>i.1.length)
     (fun i=> [(3, .slice (.tok 0) 1 (i.2.2.1.map encStr)),(1, .ptr 0 0),(25, .slice .shared 6 (v.args.map dm)),(26, .int .i64 (v.args.length:Int)),(27, .int .i64 (i.2.1:Int))]) (fun i=>⟨[bl v],[some i.2.2.2]⟩) ?_ (v.args,0,nx,_) ⟨rfl,hG,by simp at BO ⊢;omega,by simp⟩)
    rintro⟨rest,k,out,n'⟩ ⟨h1,h2,h3,h4⟩ IH
    dsimp only at h1 h2 h3 h4
    subst h4
    cases rest with
    | nil=>
     have hD:=drop_nil h1
     simp only [Ar.said]at h2
     subst h2
     repeat' (first
 | simp only [go_sem,hD,hF,hJ,hP]
 | (with_reducible refine aL hQ ?_;simp only [aE,aF,Option.some.injEq,exists_eq_left',go_sem,hD,hF,hJ,hP];repeat' (first | exact Ok.out | with_reducible refine aV ?_ ?_ | (simp;done))))
    | cons a rest=>
     obtain⟨hF,g2,hD,g4⟩:=drop_cons h1
     have bY:k<4611686018427387904:=by omega
     simp only [Ar.said]at h2
     simp only [Ar.aT]at h3
     have p8:=fun s=>jv (x:=a.x) (by have:=Ar.b8 (List.mem_of_getElem? hF);omega) (Gn a (List.mem_of_getElem? hF)) s
     have hl:=gO a.x
     have hJ:(out.length+1)*17≤bO:=by unfold bO;omega
     rcases Bool.eq_false_or_eq_true a.ref with b1 | b1
     ·simp only [b1,if_true]at h2
      have ek:=gw (l:=out++ [a.name]) (nx:=a.x.names) (n:=out.length+1) (by simp) (by simp;omega) (g:= .shared)
      simp only [List.map_append,List.map_cons,List.map_nil,encStr]at ek
      repeat' (first
 | simp only [go_sem,hD,hF,hJ,hP,b1,ek]
 | (with_reducible refine CU (p8 _) ?_)
 | (with_reducible refine aL hQ ?_;simp only [aE,aF,Option.some.injEq,exists_eq_left',go_sem,hD,hF,hJ,hP];repeat' (first | exact Ok.out | with_reducible refine aV ?_ ?_ | (simp;done))))
      refine ep 1 1 ?_ ?_ (IH (rest,k+1,out++ [a.name]++a.x.names,_) ⟨g2,h2,by simp;omega,by simp <;> omega⟩ (Nat.lt_succ_self _))
      ·(simp only [go_sem,hD,hF,hJ,hP,aQ bY,List.map_append,List.map_cons,List.map_nil,encStr];try exact bQ)
      ·(simp only [go_sem,hD,hF,hJ,hP,aQ bY,List.map_append,List.map_cons,List.map_nil,encStr];try exact bQ)
     ·simp only [b1,Bool.false_eq_true,if_false]at h2
      have ek:=gw (l:=out) (nx:=a.x.names) rfl (by omega) (g:= .shared)
      repeat' (first
 | simp only [go_sem,hD,hF,hJ,hP,b1,ek]
 | (with_reducible refine CU (p8 _) ?_)
 | (with_reducible refine aL hQ ?_;simp only [aE,aF,Option.some.injEq,exists_eq_left',go_sem,hD,hF,hJ,hP];repeat' (first | exact Ok.out | with_reducible refine aV ?_ ?_ | (simp;done))))
      refine ep 1 1 ?_ ?_ (IH (rest,k+1,out++a.x.names,_) ⟨g2,h2,by simp;omega,by simp <;> omega⟩ (Nat.lt_succ_self _))
      ·(simp only [go_sem,hD,hF,hJ,hP,aQ bY];try exact bQ)
      ·(simp only [go_sem,hD,hF,hJ,hP,aQ bY];try exact bQ)
end Go.Abs

/-! MayEq2 -/

namespace Go.Abs
theorem gJ : ∀ (a b:List It) (n:Nat),It.ea n (a++b)=(It.ea n a && It.ea (n+a.length) b)
 | [],b,n=>by simp [It.ea]
 | i::a,b,n=>by
  simp only [List.cons_append,It.ea,gJ a b (n+1),List.length_cons]
  have:n+1+a.length=n+(a.length+1):=by omega
  rw [this]
  split <;> simp
theorem wq (n:Nat) (i:It):It.ea n [i] = true↔i.s.id=((n+1:Nat):Int)∧i.deep≤12∧i.s.one=true:=by
 simp only [It.ea]
 split
 ·rename_i h
  simp only [Bool.or_eq_true,bne_iff_ne,ne_eq,decide_eq_true_eq,Bool.not_eq_true']at h
  refine⟨fun h=>(Bool.false_ne_true h).elim,fun⟨h1,h2,h3⟩=> ?_⟩
  rcases h with (h | h) | h
  ·exact(h h1).elim
  ·omega
  ·rw [h]at h3;cases h3
 ·rename_i h
  simp only [Bool.or_eq_true,bne_iff_ne,ne_eq,decide_eq_true_eq,Bool.not_eq_true',not_or,Decidable.not_not,Bool.not_eq_false]at h
  exact⟨fun _=>⟨h.1.1,by omega,h.2⟩,fun _=>rfl⟩
mutual
theorem tn (deep dh:Int) (bb:Bool) : ∀ (s:Sm) (out:List It),∃ new,mr deep dh bb out s=out++(⟨s,deep,dh,bb⟩::new)
 | ⟨id,kind,labels,name,proc,x,has,args,bf,e⟩,out=>by
  simp only [mr]
  split
  ·obtain⟨n1,h1⟩:=lR (deep+1) id false bf (out++ [⟨⟨id,kind,labels,name,proc,x,has,args,bf,e⟩,deep,dh,bb⟩])
   obtain⟨n2,h2⟩:=lR (deep+1) id true e (fT (deep+1) id false (out++ [⟨⟨id,kind,labels,name,proc,x,has,args,bf,e⟩,deep,dh,bb⟩]) bf)
   rw [h2,h1]
   exact⟨n1++n2,by simp⟩
  ·exact⟨[],rfl⟩
theorem lR (deep dh:Int) (bb:Bool) : ∀ (l:List Sm) (out:List It),∃ new,fT deep dh bb out l=out++new
 | [],out=>⟨[],by simp [fT]⟩
 | s::l,out=>by
  simp only [fT]
  split
  ·obtain⟨n1,h1⟩:=tn deep dh bb s out
   obtain⟨n2,h2⟩:=lR deep dh bb l (mr deep dh bb out s)
   rw [h2,h1]
   exact⟨⟨s,deep,dh,bb⟩::n1++n2,by simp⟩
  ·exact⟨[],by simp⟩
end
theorem xZ {nest:Int} {n:Nat} {s:Sm} (h:(Sm.kX nest n s).1=true) :
 n+1≤200∧s.id=((n+1:Nat):Int)∧s.one=true∧(Sm.ef (nest+1) (n+1) s.bf).1=true∧(Sm.ef (nest+1) (Sm.ef (nest+1) (n+1) s.bf).2 s.bb).1=true∧
 (Sm.kX nest n s).2=(Sm.ef (nest+1) (Sm.ef (nest+1) (n+1) s.bf).2 s.bb).2:=by
 rw [xi]at h ⊢
 split at h
 ·cases h
 rename_i h1
 simp only [Bool.or_eq_true,bne_iff_ne,ne_eq,decide_eq_true_eq,Bool.not_eq_true',not_or,Decidable.not_not,Bool.not_eq_false]at h1
 split at h
 ·cases h
 rename_i h2
 have qR:(Sm.ef (nest+1) (n+1) s.bf).1=true:=by simpa using h2
 refine⟨by omega,h1.1.1.2, ?_,qR,h, ?_⟩
 ·rw [wo,h1.1.2,h1.2];rfl
 ·rw [if_neg (by simp only [Bool.or_eq_true,bne_iff_ne,ne_eq,decide_eq_true_eq,Bool.not_eq_true',not_or,Decidable.not_not,Bool.not_eq_false];exact h1),if_neg h2]
theorem nW {nest:Int} {n:Nat} {l:List Sm} (h:(Sm.ef nest n l).1=true):(l = []∨nest≤12)∧Sm.ef nest n l=Sm.c9 nest n l:=by
 unfold Sm.ef gate at *
 split at h
 ·cases h
 ·rename_i hc
  rw [if_neg hc]
  refine⟨?_,rfl⟩
  simp only [Bool.and_eq_true,decide_eq_true_eq,not_and]at hc
  cases l with
  | nil=>exact .inl rfl
  | cons s l=>right;simp only [List.length_cons]at hc;omega
mutual
theorem Gp : ∀ (s:Sm) (nest dh:Int) (bb:Bool) (n:Nat) (out:List It),nest≤12→out.length≤n→n≤200→(Sm.kX nest n s).1=true→
 ∃ new,mr nest dh bb out s=out++new∧It.ea n new=true∧n+new.length=(Sm.kX nest n s).2∧(Sm.kX nest n s).2≤200
 | ⟨id,kind,labels,name,proc,x,has,args,bf,e⟩,nest,dh,bb,n,out,Gq,ho,hn,h=>by
  obtain⟨h1,h2,h3,h4,h5,h6⟩:=xZ h
  dsimp only at h2 h4 h5 h6
  rw [h6]
  obtain⟨g1,e1⟩:=nW h4
  rw [e1]at h4 h5 ⊢
  obtain⟨g2,e2⟩:=nW h5
  rw [e2]at h5 ⊢
  have q5:It.ea n [(⟨⟨id,kind,labels,name,proc,x,has,args,bf,e⟩,nest,dh,bb⟩:It)] = true:=(wq _ _).2 ⟨h2,Gq,h3⟩
  obtain⟨n1,k1,k2,k3,k4⟩:=p9 bf (nest+1) id false (n+1) (out++ [⟨⟨id,kind,labels,name,proc,x,has,args,bf,e⟩,nest,dh,bb⟩]) g1 (by simp;omega) h1 h4
  obtain⟨n2,j1,j2,j3,j4⟩:=p9 e (nest+1) id true _ (out++ [⟨⟨id,kind,labels,name,proc,x,has,args,bf,e⟩,nest,dh,bb⟩]++n1) g2 (by simp;omega) k4 h5
  simp only [mr]
  rw [if_pos (by simpa using Gq),k1,j1]
  refine⟨⟨⟨id,kind,labels,name,proc,x,has,args,bf,e⟩,nest,dh,bb⟩::(n1++n2),by simp, ?_, ?_,j4⟩
  ·have:(⟨⟨id,kind,labels,name,proc,x,has,args,bf,e⟩,nest,dh,bb⟩:It)::(n1++n2) = [⟨⟨id,kind,labels,name,proc,x,has,args,bf,e⟩,nest,dh,bb⟩]++n1++n2:=by simp
   rw [this,gJ,gJ,q5,Bool.true_and]
   have e3:n+([(⟨⟨id,kind,labels,name,proc,x,has,args,bf,e⟩,nest,dh,bb⟩:It)]++n1).length=(Sm.c9 (nest+1) (n+1) bf).2:=by simp;omega
   rw [e3,j2]
   have e4:n + [(⟨⟨id,kind,labels,name,proc,x,has,args,bf,e⟩,nest,dh,bb⟩:It)].length=n+1:=rfl
   rw [e4,k2];rfl
  ·simp only [List.length_cons,List.length_append];omega
theorem p9 : ∀ (l:List Sm) (nest dh:Int) (bb:Bool) (n:Nat) (out:List It),(l = []∨nest≤12)→out.length≤n→n≤200→(Sm.c9 nest n l).1=true→
 ∃ new,fT nest dh bb out l=out++new∧It.ea n new=true∧n+new.length=(Sm.c9 nest n l).2∧(Sm.c9 nest n l).2≤200
 | [],nest,dh,bb,n,out,Gq,ho,hn,h=>⟨[],by simp [fT],rfl,by simp [Sm.c9],by simpa [Sm.c9]using hn⟩
 | s::l,nest,dh,bb,n,out,Gq,ho,hn,h=>by
  have NR:nest≤12:=Gq.resolve_left (by simp)
  simp only [Sm.c9]at h ⊢
  split at h
  ·cases h
  rename_i hc
  rw [if_neg hc]
  obtain⟨n1,k1,k2,k3,k4⟩:=Gp s nest dh bb n out NR ho hn (by simpa using hc)
  obtain⟨n2,j1,j2,j3,j4⟩:=p9 l nest dh bb _ (out++n1) (.inr NR) (by simp;omega) k4 h
  simp only [fT]
  rw [if_pos (by simp only [decide_eq_true_eq];omega),k1,j1]
  refine⟨n1++n2,by simp, ?_,by simp;omega,j4⟩
  rw [gJ,k2,k3,j2];rfl
end
mutual
theorem Gr : ∀ (s:Sm) (nest dh:Int) (bb:Bool) (n:Nat) (out new:List It),mr nest dh bb out s=out++new→It.ea n new=true→out.length≤n→n+new.length≤200→
 Sm.kX nest n s=(true,n+new.length)∧nest≤12
 | ⟨id,kind,labels,name,proc,x,has,args,bf,e⟩,nest,dh,bb,n,out,new,mN,hm,ho,hn=>by
  obtain⟨n0,h0⟩:=tn nest dh bb ⟨id,kind,labels,name,proc,x,has,args,bf,e⟩ out
  have e0:new = ⟨⟨id,kind,labels,name,proc,x,has,args,bf,e⟩,nest,dh,bb⟩::n0:=List.append_cancel_left (mN.symm.trans h0)
  subst e0
  have PZ:(⟨⟨id,kind,labels,name,proc,x,has,args,bf,e⟩,nest,dh,bb⟩:It)::n0 = [⟨⟨id,kind,labels,name,proc,x,has,args,bf,e⟩,nest,dh,bb⟩]++n0:=rfl
  rw [PZ,gJ,Bool.and_eq_true]at hm
  obtain⟨Al,Yz⟩:=hm
  obtain⟨c1,c2,c3⟩:=(wq _ _).1 Al
  dsimp only at c1 c2 c3
  simp only [List.length_cons]at hn ⊢
  have I3:fT (nest+1) id true (fT (nest+1) id false (out++ [⟨⟨id,kind,labels,name,proc,x,has,args,bf,e⟩,nest,dh,bb⟩]) bf) e=out++([⟨⟨id,kind,labels,name,proc,x,has,args,bf,e⟩,nest,dh,bb⟩]++n0):=by
   simp only [mr]at mN
   rw [if_pos (by simpa using c2)]at mN
   exact mN
  obtain⟨n1,g1⟩:=lR (nest+1) id false bf (out++ [⟨⟨id,kind,labels,name,proc,x,has,args,bf,e⟩,nest,dh,bb⟩])
  obtain⟨n2,g2⟩:=lR (nest+1) id true e (fT (nest+1) id false (out++ [⟨⟨id,kind,labels,name,proc,x,has,args,bf,e⟩,nest,dh,bb⟩]) bf)
  have en:n0=n1++n2:=by
   rw [g2,g1]at I3
   simp only [List.append_assoc,List.append_cancel_left_eq]at I3
   exact I3.symm
  subst en
  have I4:It.ea (n+1) (n1++n2)=true:=Yz
  rw [gJ,Bool.and_eq_true]at I4
  simp only [List.length_append]at hn ⊢
  obtain⟨r1,r2⟩:=qa bf (nest+1) id false (n+1) _ n1 g1 I4.1 (by simp;omega) (by omega)
  obtain⟨q1,q2⟩:=qa e (nest+1) id true (n+1+n1.length) _ n2 g2 I4.2 (by rw [g1];simp;omega) (by omega)
  refine⟨?_,c2⟩
  have gg : ∀ {l:List Sm} {m:Nat} {r:Bool×Nat},Sm.c9 (nest+1) m l=r→(l = []∨nest+1≤12)→Sm.ef (nest+1) m l=r:=by
   intro l m r h1 h2
   unfold Sm.ef gate
   rw [if_neg]
   ·exact h1
   ·simp only [Bool.and_eq_true,decide_eq_true_eq,not_and]
    rcases h2 with h2 | h2
    ·subst h2;simp
    ·omega
  have t1:=gg r1 r2
  have t2:=gg q1 q2
  rw [xi]
  dsimp only
  rw [t1]
  dsimp only
  rw [t2]
  rw [wo,Bool.and_eq_true]at c3
  rw [if_neg]
  ·simp;omega
  ·simp only [Bool.or_eq_true,bne_iff_ne,ne_eq,decide_eq_true_eq,Bool.not_eq_true',not_or,Decidable.not_not,Bool.not_eq_false]
   exact⟨⟨⟨by omega,c1⟩,c3.1⟩,c3.2⟩
theorem qa : ∀ (l:List Sm) (nest dh:Int) (bb:Bool) (n:Nat) (out new:List It),fT nest dh bb out l=out++new→It.ea n new=true→out.length≤n→n+new.length≤200→
 Sm.c9 nest n l=(true,n+new.length)∧(l = []∨nest≤12)
 | [],nest,dh,bb,n,out,new,mN,hm,ho,hn=>by
  simp only [fT]at mN
  have:new = []:=by simpa using mN
  subst this
  exact⟨by simp [Sm.c9], .inl rfl⟩
 | s::l,nest,dh,bb,n,out,new,mN,hm,ho,hn=>by
  simp only [fT]at mN
  rw [if_pos (by simp only [decide_eq_true_eq];omega)]at mN
  obtain⟨n1,g1⟩:=tn nest dh bb s out
  obtain⟨n2,g2⟩:=lR nest dh bb l (mr nest dh bb out s)
  have en:new=(⟨s,nest,dh,bb⟩::n1)++n2:=by
   rw [g2,g1,List.append_assoc,List.append_cancel_left_eq]at mN
   exact mN.symm
  subst en
  rw [gJ,Bool.and_eq_true]at hm
  rw [List.length_append]at hn ⊢
  obtain⟨r1,r2⟩:=Gr s nest dh bb n out _ g1 hm.1 ho (by omega)
  obtain⟨q1,q2⟩:=qa l nest dh bb (n+(⟨s,nest,dh,bb⟩::n1:List It).length) _ n2 g2 hm.2 (by rw [g1,List.length_append];omega) (by omega)
  refine⟨?_, .inr r2⟩
  simp only [Sm.c9,r1,Bool.not_true,Bool.false_eq_true, ↓reduceIte,q1]
  congr 1;omega
end
theorem tp : ∀ (l:List Pc) (out:List It),out.length≤200→(Pc.c9 out.length l=true↔Pc.lx l=true∧∃ new,allM out l=out++new∧(out++new).length≤200∧It.ea out.length new=true)
 | [],out,ho=>by simp [Pc.c9,Pc.lx,allM,It.ea];exact ho
 | f::l,out,ho=>by
  have R8 : ∀ (l:List Pc) (out:List It),∃ new,allM out l=out++new:=by
   intro l
   induction l with
   | nil=>intro out;exact⟨[],by simp [allM]⟩
   | cons f l ih=>
    intro out
    simp only [allM]
    split
    ·exact⟨_,rfl⟩
    ·obtain⟨n1,h1⟩:=ih (out++f.flat)
     exact⟨f.flat++n1,by rw [h1,List.append_assoc]⟩
  simp only [Pc.c9,Pc.lx]
  have P0:(decide ((f.params.length:Int) > 8) || decide ((f.vars.length:Int) > 16) || !(isName f.name) || !(cT f.vars) || !(cT f.fin))=(!(isName f.name) || decide ((f.params.length:Int) > 8) || decide ((f.vars.length:Int) > 16) || !(cT f.vars) || !(cT f.fin)):=by
   cases isName f.name <;> simp
  rw [P0]
  split
  ·simp
  split
  ·simp
  have hg:Sm.ef 1 out.length f.body=Sm.c9 1 out.length f.body:=by unfold Sm.ef gate;rw [if_neg (by simp)]
  rw [hg]
  constructor
  ·intro h
   split at h
   ·cases h
   rename_i hc
   obtain⟨n1,k1,k2,k3,k4⟩:=p9 f.body 1 0 false out.length [] (.inr (by omega)) (by simp) ho (by simpa using hc)
   have mN:f.flat=n1:=by unfold Pc.flat;rw [k1];rfl
   rw [← k3, ← List.length_append]at h
   obtain⟨hh,n2,j1,j2,j3⟩:=(tp l (out++n1) (by rw [List.length_append];omega)).1 h
   refine⟨hh,n1++n2, ?_,by simpa using j2, ?_⟩
   ·simp only [allM,mN]
    rw [if_neg (by simp only [List.length_append,decide_eq_true_eq];omega),j1,List.append_assoc]
   ·rw [gJ,k2, ← List.length_append,j3];rfl
  ·rintro⟨hh,new,j1,j2,j3⟩
   simp only [allM]at j1
   split at j1
   ·rename_i hc
    have:new=f.flat:=(List.append_cancel_left j1).symm
    subst this
    simp only [decide_eq_true_eq]at hc
    omega
   rename_i hc
   simp only [decide_eq_true_eq]at hc
   obtain⟨n2,g2⟩:=R8 l (out++f.flat)
   have en:new=f.flat++n2:=by
    rw [g2,List.append_assoc]at j1
    exact(List.append_cancel_left j1).symm
   subst en
   rw [gJ,Bool.and_eq_true]at j3
   rw [List.length_append,List.length_append]at j2
   obtain⟨r1,_⟩:=qa f.body 1 0 false out.length [] f.flat (by unfold Pc.flat;rfl) j3.1 (by simp) (by omega)
   rw [r1]
   simp only [Bool.not_true,Bool.false_eq_true, ↓reduceIte]
   rw [← List.length_append]
   exact(tp l (out++f.flat) (by rw [List.length_append];omega)).2 ⟨hh,n2,g2,by simp;omega,by rw [List.length_append];exact j3.2⟩
theorem BP (p:Pg):p.xk=p.may:=by
 have h:=tp p.procs [] (by simp)
 unfold Pg.xk Pg.may
 split
 ·rfl
 ·have e:Pc.c9 0 p.procs=(if !(Pc.lx p.procs)then false else if decide ((p.all.length:Int) > 200)then false else It.ea 0 p.all):=by
   rw [Bool.eq_iff_iff]
   have h':Pc.c9 0 p.procs=true↔_:=h
   rw [h']
   have ha:p.all=allM [] p.procs:=rfl
   constructor
   ·rintro⟨h1,new,h2,h3,h4⟩
    rw [ha,h2,h1]
    simp only [List.nil_append]at h3 ⊢
    simp only [Bool.not_true,Bool.false_eq_true, ↓reduceIte]
    rw [if_neg (by simp only [decide_eq_true_eq];omega)]
    exact h4
   ·intro h1
    cases hh:Pc.lx p.procs
    ·rw [hh]at h1;simp at h1
    ·rw [hh]at h1
     simp only [Bool.not_true,Bool.false_eq_true, ↓reduceIte]at h1
     split at h1
     ·cases h1
     ·rename_i hc
      simp only [decide_eq_true_eq]at hc
      exact⟨rfl,p.all,by rw [ha];rfl,by simp;omega,h1⟩
  exact e
end Go.Abs

/-! Tree1 -/

namespace Go.Abs
open Go.Proofs
end Go.Abs

/-! Tree2 -/

namespace Go.Abs
open Go.Proofs
end Go.Abs

/-! Sc1 -/

namespace Go.Abs
set_option maxRecDepth 8000
open Go.Proofs
def R9 (x:ax):List ax→Bool
 | []=>false
 | s::l=>if x==s then true else R9 x l
def x3 (pre:List ax):List ax→Bool
 | []=>false
 | s::l=>if c7 pre s then true else x3 (pre++ [s]) l
def ey (l:List ax):Bool:=x3 [] l
theorem Gs {l:List ax} {k:Nat} {a:ax} (h:l[k]? = some a):l.take (k+1)=l.take k++ [a]:=by rw [List.take_add_one,h];rfl
theorem NS {l:List ax} (hl:l.length<4611686018427387904) (x:ax) (g:Tag) (s:St):aH Try.prog nT [.slice g 1 (l.map encStr), .str x] s (.bool (c7 l x)) s:=by
 refine aH.F9 (d':= .slice .shared 1 (l.map encStr)) ?_ (Wk.shared _ _ _)
 refine aH.pure ?_ (by simp [D.bG,D.ok,Tag.ok,er]) rfl s
 rw [← xY]
 generalize h:rE x l=p
 unfold S0
 refine aH.go Bi rfl fun B Q hB hQ=> ?_
 have⟨hD,hF,hJ,hP⟩:=cf
 repeat' (first
 | simp only [go_sem,hD,hF,hJ,hP]
 | (with_reducible first | refine cq fun hc=> ?_ | refine cr fun hc=> ?_ | refine ct (fun hc=> ?_) fun hc=> ?_) <;> (try simp only [hc,bs, ↓reduceIte]at h) <;> try simp only [hc]
 | (with_reducible refine aL hQ ?_;(try cases h);simp only [aE,aF,dj,dk,go_sem,hD,hF,hJ,hP];repeat' (first | exact Ok.out | with_reducible refine aV ?_ ?_ | (simp;done))))
 refine dM 0 0 (bx.ind (ι:=List ax×Nat) (fun i=>l.drop i.2=i.1∧rE x i.1=p) (fun i=>i.1.length)
  (fun i=> [(0, .slice .shared 1 (l.map encStr)),(1, .str x),(7, .int .i64 (l.length:Int)),(8, .int .i64 (i.2:Int))]) (fun i=>⟨[],[]⟩) ?_ (l,0) ⟨rfl,h⟩)
 rintro⟨rest,k⟩ ⟨h1,h⟩ IH
 dsimp only at h1 h
 cases rest with
 | nil=>
  have hD:=drop_nil h1
  simp only [rE]at h
  repeat' (first
 | simp only [go_sem,hD,hF,hJ,hP]
 | (with_reducible first | refine cq fun hc=> ?_ | refine cr fun hc=> ?_ | refine ct (fun hc=> ?_) fun hc=> ?_) <;> (try simp only [hc,bs, ↓reduceIte]at h) <;> try simp only [hc]
 | (with_reducible refine aL hQ ?_;(try cases h);simp only [aE,aF,dj,dk,go_sem,hD,hF,hJ,hP];repeat' (first | exact Ok.out | with_reducible refine aV ?_ ?_ | (simp;done))))
 | cons a rest=>
  obtain⟨hF,g2,hD,g4⟩:=drop_cons h1
  have bY:k<4611686018427387904:=by omega
  simp only [rE]at h
  repeat' (first
 | simp only [go_sem,hD,hF,hJ,hP]
 | (with_reducible first | refine cq fun hc=> ?_ | refine cr fun hc=> ?_ | refine ct (fun hc=> ?_) fun hc=> ?_) <;> (try simp only [hc,bs, ↓reduceIte]at h) <;> try simp only [hc]
 | (with_reducible refine aL hQ ?_;(try cases h);simp only [aE,aF,dj,dk,go_sem,hD,hF,hJ,hP];repeat' (first | exact Ok.out | with_reducible refine aV ?_ ?_ | (simp;done))))
  refine ep 0 0 ?_ ?_ (IH (rest,k+1) ⟨g2,h⟩ (Nat.lt_succ_self _))
  ·(simp only [go_sem,hD,hF,hJ,hP,aQ bY];try exact bQ)
  ·(simp only [go_sem,hD,hF,hJ,hP,aQ bY];try exact bQ)
theorem ve {l:List ax} (hl:l.length<4611686018427387904) (g:Tag) (s:St):aH Try.prog jX [.slice g 1 (l.map encStr)] s (.bool (ey l)) s:=by
 refine aH.F9 (d':= .slice .shared 1 (l.map encStr)) ?_ (Wk.shared _ _ _)
 refine aH.pure ?_ (by simp [D.bG,D.ok,Tag.ok,er]) rfl s
 generalize h:ey l=p
 simp only [ey]at h
 unfold S0
 refine aH.go vX rfl fun B Q hB hQ=> ?_
 have⟨hD,hF,hJ,hP⟩:=cf
 repeat' (first
 | simp only [go_sem,hD,hF,hJ,hP]
 | (with_reducible first | refine cq fun hc=> ?_ | refine cr fun hc=> ?_ | refine ct (fun hc=> ?_) fun hc=> ?_) <;> (try simp only [hc,bs, ↓reduceIte]at h) <;> try simp only [hc]
 | (with_reducible refine aL hQ ?_;(try cases h);simp only [aE,aF,dj,dk,go_sem,hD,hF,hJ,hP];repeat' (first | exact Ok.out | with_reducible refine aV ?_ ?_ | (simp;done))))
 refine dM 0 0 (bx.ind (ι:=List ax×Nat) (fun i=>l.drop i.2=i.1∧x3 (l.take i.2) i.1=p) (fun i=>i.1.length)
  (fun i=> [(0, .slice .shared 1 (l.map encStr)),(5, .slice .shared 1 (l.map encStr)),(6, .int .i64 (l.length:Int)),(7, .int .i64 (i.2:Int))]) (fun i=>⟨[],[]⟩) ?_ (l,0) ⟨rfl,h⟩)
 rintro⟨rest,k⟩ ⟨h1,h⟩ IH
 dsimp only at h1 h
 cases rest with
 | nil=>
  have hD:=drop_nil h1
  simp only [x3]at h
  repeat' (first
 | simp only [go_sem,hD,hF,hJ,hP]
 | (with_reducible first | refine cq fun hc=> ?_ | refine cr fun hc=> ?_ | refine ct (fun hc=> ?_) fun hc=> ?_) <;> (try simp only [hc,bs, ↓reduceIte]at h) <;> try simp only [hc]
 | (with_reducible refine aL hQ ?_;(try cases h);simp only [aE,aF,dj,dk,go_sem,hD,hF,hJ,hP];repeat' (first | exact Ok.out | with_reducible refine aV ?_ ?_ | (simp;done))))
 | cons a rest=>
  obtain⟨hF,g2,hD,g4⟩:=drop_cons h1
  have bY:k<4611686018427387904:=by omega
  simp only [x3]at h
  have hc:=gI (l:=l.take k) (by rw [List.length_take];omega) a
  have e1:List.drop 0 (List.take k (l.map encStr))=(l.take k).map encStr:=by simp [List.map_take]
  have c1:((0:Int)≤(k:Int))=True:=by simp
  have c2:((k:Int)≤(l.length:Int))=True:=by simp only [eq_iff_iff,iff_true];omega
  have e2:List.take k (l.map encStr)=(l.take k).map encStr:=by simp [List.map_take]
  repeat' (first
 | simp only [go_sem,hD,hF,hJ,hP,e1,e2,c1,c2,or_true,true_and,and_self,ite_self,Int.toNat_natCast,List.drop_zero]
 | (with_reducible refine CU (hc _ _) ?_)
 | (with_reducible first | refine cq fun hc=> ?_ | refine cr fun hc=> ?_ | refine ct (fun hc=> ?_) fun hc=> ?_) <;> (try simp only [hc,bs, ↓reduceIte]at h) <;> try simp only [hc]
 | (with_reducible refine aL hQ ?_;(try cases h);simp only [aE,aF,dj,dk,go_sem,hD,hF,hJ,hP,e1,e2,c1,c2,or_true,true_and,and_self,ite_self,Int.toNat_natCast,List.drop_zero];repeat' (first | exact Ok.out | with_reducible refine aV ?_ ?_ | (simp;done))))
  refine ep 0 0 ?_ ?_ (IH (rest,k+1) ⟨g2,by dsimp only;rw [Gs (by assumption)];exact h⟩ (Nat.lt_succ_self _))
  ·(simp only [go_sem,hD,hF,hJ,hP,aQ bY];try exact bQ)
  ·(simp only [go_sem,hD,hF,hJ,hP,aQ bY];try exact bQ)
end Go.Abs

/-! Sc2 -/

namespace Go.Abs
set_option maxRecDepth 8000
open Go.Proofs
def wu (vars globals:List ax) (name:ax):List Pm→Int
 | []=>if c7 vars name then 4 else if c7 globals name then 1 else 0
 | a::l=>if a.name==name then(if a.ref then 3 else 2)else wu vars globals name l
def Pc.jj (p:Pg) (f:Pc) (name:ax):Int:=wu f.vars p.globals name f.params
theorem Am {p:Pg} {f:Pc} (hp:f.params.length<1000000000) (hv:f.vars.length<1000000000) (hg:p.globals.length<1000000000) (name:ax) (s:St):aH Try.prog oX [.agg (b7 p), .agg (bP f), .str name] s (.int .i64 (f.jj p name)) s:=by
 refine aH.pure ?_ (by simp [D.bG,D.ok,lG,uV]) rfl s
 have mO:=gI (l:=f.vars) (by omega) name
 have qR:=gI (l:=p.globals) (by omega) name
 generalize h:f.jj p name=q
 simp only [Pc.jj]at h
 unfold S0
 refine aH.go xb rfl fun B Q hB hQ=> ?_
 have⟨hD,hF,hJ,hP⟩:=cf
 repeat' (first
 | simp only [go_sem,hD,hF,hJ,hP]
 | (with_reducible refine aL hQ ?_;simp only [aE,aF,Option.some.injEq,exists_eq_left',go_sem,hD,hF,hJ,hP];repeat' (first | exact Ok.out | with_reducible refine aV ?_ ?_ | (simp;done))))
 refine dM 2 0 (bx.ind (ι:=List Pm×Nat) (fun i=>f.params.drop i.2=i.1∧wu f.vars p.globals name i.1=q) (fun i=>i.1.length)
  (fun i=> [(2, .str name),(3, .ptr 0 0),(4, .ptr 1 0),(10, .slice .shared 2 (f.params.map fR)),(11, .int .i64 (f.params.length:Int)),(12, .int .i64 (i.2:Int))]) (fun i=>⟨[b7 p,bP f],[]⟩) ?_ (f.params,0) ⟨rfl,h⟩)
 rintro⟨rest,k⟩ ⟨h1,h⟩ IH
 dsimp only at h1 h
 cases rest with
 | nil=>
  have hD:=drop_nil h1
  simp only [wu]at h
  rcases Bool.eq_false_or_eq_true (c7 f.vars name)with b1 | b1
  ·simp only [b1,if_true]at h
   subst h
   repeat' (first
 | simp only [go_sem,hD,hF,hJ,hP,b1]
 | (with_reducible refine CU (mO _ _) ?_)
 | (with_reducible refine CU (qR _ _) ?_)
 | (with_reducible refine aL hQ ?_;simp only [aE,aF,Option.some.injEq,exists_eq_left',go_sem,hD,hF,hJ,hP];repeat' (first | exact Ok.out | with_reducible refine aV ?_ ?_ | (simp;done))))
  ·simp only [b1,Bool.false_eq_true,if_false]at h
   rcases Bool.eq_false_or_eq_true (c7 p.globals name)with b2 | b2
   ·simp only [b2,if_true]at h
    subst h
    repeat' (first
 | simp only [go_sem,hD,hF,hJ,hP,b1,b2]
 | (with_reducible refine CU (mO _ _) ?_)
 | (with_reducible refine CU (qR _ _) ?_)
 | (with_reducible refine aL hQ ?_;simp only [aE,aF,Option.some.injEq,exists_eq_left',go_sem,hD,hF,hJ,hP];repeat' (first | exact Ok.out | with_reducible refine aV ?_ ?_ | (simp;done))))
   ·simp only [b2,Bool.false_eq_true,if_false]at h
    subst h
    repeat' (first
 | simp only [go_sem,hD,hF,hJ,hP,b1,b2]
 | (with_reducible refine CU (mO _ _) ?_)
 | (with_reducible refine CU (qR _ _) ?_)
 | (with_reducible refine aL hQ ?_;simp only [aE,aF,Option.some.injEq,exists_eq_left',go_sem,hD,hF,hJ,hP];repeat' (first | exact Ok.out | with_reducible refine aV ?_ ?_ | (simp;done))))
 | cons a rest=>
  obtain⟨hF,g2,hD,g4⟩:=drop_cons h1
  have bY:k<4611686018427387904:=by omega
  simp only [wu]at h
  rcases Bool.eq_false_or_eq_true (a.name==name)with b1 | b1
  ·simp only [b1,if_true]at h
   rcases Bool.eq_false_or_eq_true a.ref with b2 | b2
   ·simp only [b2,if_true]at h
    subst h
    repeat' (first
 | simp only [go_sem,hD,hF,hJ,hP,b1,b2]
 | (with_reducible refine aL hQ ?_;simp only [aE,aF,Option.some.injEq,exists_eq_left',go_sem,hD,hF,hJ,hP];repeat' (first | exact Ok.out | with_reducible refine aV ?_ ?_ | (simp;done))))
   ·simp only [b2,Bool.false_eq_true,if_false]at h
    subst h
    repeat' (first
 | simp only [go_sem,hD,hF,hJ,hP,b1,b2]
 | (with_reducible refine aL hQ ?_;simp only [aE,aF,Option.some.injEq,exists_eq_left',go_sem,hD,hF,hJ,hP];repeat' (first | exact Ok.out | with_reducible refine aV ?_ ?_ | (simp;done))))
  ·simp only [b1,Bool.false_eq_true,if_false]at h
   repeat' (first
 | simp only [go_sem,hD,hF,hJ,hP,b1]
 | (with_reducible refine aL hQ ?_;simp only [aE,aF,Option.some.injEq,exists_eq_left',go_sem,hD,hF,hJ,hP];repeat' (first | exact Ok.out | with_reducible refine aV ?_ ?_ | (simp;done))))
   refine ep 2 0 ?_ ?_ (IH (rest,k+1) ⟨g2,h⟩ (Nat.lt_succ_self _))
   ·(simp only [go_sem,hD,hF,hJ,hP,aQ bY];try exact bQ)
   ·(simp only [go_sem,hD,hF,hJ,hP,aQ bY];try exact bQ)
def kn (name:ax):List Pc→Option Pc
 | []=>none
 | f::l=>if f.name==name then some f else kn name l
def Pg.find (p:Pg) (name:ax):Option Pc:=kn name p.procs
def YB:Pc:=⟨[],[],[],[],[]⟩
def SC (r:Option Pc):D:= .tuple [.agg (bP (r.getD YB)), .bool r.isSome]
end Go.Abs

/-! Sc3 -/

namespace Go.Abs
set_option maxRecDepth 8000
open Go.Proofs
def Pc.wv (f:Pc):List ax:=f.params.map (·.name)
def Pc.own (f:Pc):List ax:=f.wv++f.vars
theorem P1 {f:Pc} (hp:f.params.length<1000000) (hv:f.vars.length<1000000) (s:St):aH Try.prog qt [.agg (bP f)] s (.slice .shared 1 (f.own.map encStr)) s:=by
 refine aH.pure ?_ (by simp [D.bG,D.ok,uV]) (by simp only [D.ok,Tag.ok,er];rfl) s
 generalize hR:f.own=R
 simp only [Pc.own]at hR
 unfold S0
 refine aH.go yx rfl fun B Q hB hQ=> ?_
 have⟨hD,hF,hJ,hP⟩:=cf
 repeat' (first
 | simp only [go_sem,hD,hF,hJ,hP]
 | (with_reducible refine aL hQ ?_;simp only [aE,aF,Option.some.injEq,exists_eq_left',go_sem,hD,hF,hJ,hP];repeat' (first | exact Ok.out | with_reducible refine aV ?_ ?_ | (simp;done))))
 refine bx.uU 3 1 rfl ?_
 simp only [go_sem,hD,hF,hJ,hP]
 refine dM 1 1 (bx.ind (ι:=List Pm×Nat×List ax×Nat) (fun i=>f.params.drop i.2.1=i.1∧i.2.2.1++i.1.map (·.name)=f.wv∧i.2.2.2=i.2.2.1.length) (fun i=>i.1.length)
  (fun i=> [(1, .ptr 0 0),(3, .slice (.tok 0) 1 (i.2.2.1.map encStr)),(7, .slice .shared 2 (f.params.map fR)),(8, .int .i64 (f.params.length:Int)),(9, .int .i64 (i.2.1:Int))]) (fun i=>⟨[bP f],[some i.2.2.2]⟩) ?_ (f.params,0,[],0) ⟨rfl,rfl,rfl⟩)
 rintro⟨rest,k,out,n⟩ ⟨h1,h2,h3⟩ IH
 dsimp only at h1 h2 h3
 subst h3
 have YC:out.length+rest.length<1000000:=by
  have:=congrArg List.length h2
  simp only [List.length_append,List.length_map,Pc.wv]at this
  omega
 cases rest with
 | nil=>
  have hD:=drop_nil h1
  simp only [List.map_nil,List.append_nil]at h2
  subst hR
  rw [← h2]at hQ
  have ek:=gw (l:=out) (nx:=f.vars) rfl (by omega) (g:= .shared)
  repeat' (first
 | simp only [go_sem,hD,hF,hJ,hP,ek]
 | (with_reducible refine aL hQ ?_;simp only [aE,aF,Option.some.injEq,exists_eq_left',go_sem,hD,hF,hJ,hP];repeat' (first | exact Ok.out | with_reducible refine aV ?_ ?_ | (simp;done))))
 | cons a rest=>
  obtain⟨hF,g2,hD,g4⟩:=drop_cons h1
  have bY:k<4611686018427387904:=by omega
  have hJ:(out.length+1)*17≤bO:=by unfold bO;omega
  repeat' (first
 | simp only [go_sem,hD,hF,hJ,hP]
 | (with_reducible refine aL hQ ?_;simp only [aE,aF,Option.some.injEq,exists_eq_left',go_sem,hD,hF,hJ,hP];repeat' (first | exact Ok.out | with_reducible refine aV ?_ ?_ | (simp;done))))
  refine ep 1 1 ?_ ?_ (IH (rest,k+1,out++ [a.name],out.length+1) ⟨g2,by rw [← h2];simp,by simp⟩ (Nat.lt_succ_self _))
  ·(simp only [go_sem,hD,hF,hJ,hP,aQ bY,List.map_append,List.map_cons,List.map_nil,encStr];try exact bQ)
  ·(simp only [go_sem,hD,hF,hJ,hP,aQ bY,List.map_append,List.map_cons,List.map_nil,encStr];try exact bQ)
def mw:ax:= [109,97,105,110]
def Sm.known (p:Pg) (f:Pc) (procs:List ax) (v:Sm):Bool:=
 !(v.said.any fun n=>f.jj p n==0) && (v.kind != 4 || (v.proc != mw && c7 procs v.proc))
structure Pc.Small (p:Pg) (f:Pc):Prop where
 par:f.params.length<1000000
 vars:f.vars.length<1000000
 Af:p.globals.length<1000000
def tU (p:Pg) (f:Pc):List ax→Bool
 | []=>true
 | n::l=>if f.jj p n==0 then false else tU p f l
theorem x4 (p:Pg) (f:Pc) : ∀ l,tU p f l = !(l.any fun n=>f.jj p n==0)
 | []=>rfl
 | n::l=>by
  simp only [tU,List.any_cons,x4 p f l]
  cases (f.jj p n==0) <;> simp
theorem An (v:Sm) (h:v.pf):v.said.length<3000000:=by
 have : ∀ (l:List Ar) (out:List ax),(Ar.said out l).length≤out.length+2*Ar.aT l:=by
  intro l
  induction l with
  | nil=>intro out;simp [Ar.said]
  | cons a l ih=>
   intro out
   simp only [Ar.said,Ar.aT]
   refine Nat.le_trans (ih _) ?_
   have:=gO a.x
   have:1≤a.x.size:=by obtain⟨_,_,_,_⟩:=a.x;simp [Ex.size]
   simp only [List.length_append]
   split <;> simp <;> omega
 have h1:=this v.args (v.oH++v.x.names)
 have h2:=gO v.x
 have h3:=h.2.2
 have h4:v.oH.length≤1:=by unfold Sm.oH;split <;> simp
 simp only [List.length_append]at h1
 unfold Sm.said
 omega
theorem Ly {p:Pg} {f:Pc} {procs:List ax} {v:Sm} (hs:f.Small p) (x5:procs.length<1000000) (hv:v.pf) (s:St):aH Try.prog lr [.agg (b7 p), .agg (bP f), .slice .shared 1 (procs.map encStr), .agg (bl v)] s (.bool (v.known p f procs)) s:=by
 refine aH.pure ?_ (by simp [D.bG,D.ok,lG,uV,qp,Tag.ok,er]) rfl s
 have hn:=fun s=>tj hv s
 have hk:=fun n s=>Am (p:=p) (f:=f) (by have:=hs.par;omega) (by have:=hs.vars;omega) (by have:=hs.Af;omega) n s
 have NT:=gI (l:=procs) (by omega) v.proc
 have hl:=An v hv
 generalize h:v.known p f procs=q
 simp only [Sm.known, ← x4]at h
 unfold S0
 refine aH.go vY rfl fun B Q hB hQ=> ?_
 have⟨hD,hF,hJ,hP⟩:=cf
 repeat' (first
 | simp only [go_sem,hD,hF,hJ,hP]
 | (with_reducible refine CU (hn _) ?_)
 | (with_reducible refine aL hQ ?_;simp only [aE,aF,Option.some.injEq,exists_eq_left',go_sem,hD,hF,hJ,hP];repeat' (first | exact Ok.out | with_reducible refine aV ?_ ?_ | (simp;done))))
 refine dM 3 0 (bx.ind (ι:=List ax×Nat) (fun i=>v.said.drop i.2=i.1∧(tU p f i.1 && (v.kind != 4 || (v.proc != mw && c7 procs v.proc)))=q) (fun i=>i.1.length)
  (fun i=> [(2, .slice .shared 1 (procs.map encStr)),(4, .ptr 0 0),(5, .ptr 1 0),(7, .ptr 2 0),(12, .slice .shared 1 (v.said.map encStr)),(13, .int .i64 (v.said.length:Int)),(14, .int .i64 (i.2:Int))]) (fun i=>⟨[b7 p,bP f,bl v],[]⟩) ?_ (v.said,0) ⟨rfl,h⟩)
 rintro⟨rest,k⟩ ⟨h1,h⟩ IH
 dsimp only at h1 h
 cases rest with
 | nil=>
  have hD:=drop_nil h1
  simp only [tU,Bool.true_and]at h
  rcases Bool.eq_false_or_eq_true (v.kind != 4)with b1 | b1
  ·simp only [b1,Bool.true_or]at h
   subst h
   repeat' (first
 | simp only [go_sem,hD,hF,hJ,hP,b1]
 | (with_reducible refine aL hQ ?_;simp only [aE,aF,Option.some.injEq,exists_eq_left',go_sem,hD,hF,hJ,hP];repeat' (first | exact Ok.out | with_reducible refine aV ?_ ?_ | (simp;done))))
  ·simp only [b1,Bool.false_or]at h
   rcases Bool.eq_false_or_eq_true (v.proc != mw)with b2 | b2
   ·simp only [b2,Bool.true_and]at h
    unfold mw at b2
    have b3:(v.proc == [109,97,105,110]) = !(v.proc != [109,97,105,110]):=by simp only [bne,Bool.not_not]
    rw [b2]at b3
    simp only [Bool.not_true,Bool.not_false]at b3
    subst h
    repeat' (first
 | simp only [go_sem,hD,hF,hJ,hP,b1,b2,b3]
 | (with_reducible refine CU (NT _ _) ?_)
 | (with_reducible refine aL hQ ?_;simp only [aE,aF,Option.some.injEq,exists_eq_left',go_sem,hD,hF,hJ,hP];repeat' (first | exact Ok.out | with_reducible refine aV ?_ ?_ | (simp;done))))
   ·simp only [b2,Bool.false_and]at h
    unfold mw at b2
    have b3:(v.proc == [109,97,105,110]) = !(v.proc != [109,97,105,110]):=by simp only [bne,Bool.not_not]
    rw [b2]at b3
    simp only [Bool.not_true,Bool.not_false]at b3
    subst h
    repeat' (first
 | simp only [go_sem,hD,hF,hJ,hP,b1,b2,b3]
 | (with_reducible refine CU (NT _ _) ?_)
 | (with_reducible refine aL hQ ?_;simp only [aE,aF,Option.some.injEq,exists_eq_left',go_sem,hD,hF,hJ,hP];repeat' (first | exact Ok.out | with_reducible refine aV ?_ ?_ | (simp;done))))
 | cons a rest=>
  obtain⟨hF,g2,hD,g4⟩:=drop_cons h1
  have bY:k<4611686018427387904:=by omega
  simp only [tU]at h
  rcases Bool.eq_false_or_eq_true (f.jj p a==0)with b1 | b1
  ·simp only [b1,if_true,Bool.false_and]at h
   subst h
   repeat' (first
 | simp only [go_sem,hD,hF,hJ,hP,b1]
 | (with_reducible refine CU (hk _ _) ?_)
 | (with_reducible refine aL hQ ?_;simp only [aE,aF,Option.some.injEq,exists_eq_left',go_sem,hD,hF,hJ,hP];repeat' (first | exact Ok.out | with_reducible refine aV ?_ ?_ | (simp;done))))
  ·simp only [b1,Bool.false_eq_true,if_false]at h
   repeat' (first
 | simp only [go_sem,hD,hF,hJ,hP,b1]
 | (with_reducible refine CU (hk _ _) ?_)
 | (with_reducible refine aL hQ ?_;simp only [aE,aF,Option.some.injEq,exists_eq_left',go_sem,hD,hF,hJ,hP];repeat' (first | exact Ok.out | with_reducible refine aV ?_ ?_ | (simp;done))))
   refine ep 3 0 ?_ ?_ (IH (rest,k+1) ⟨g2,h⟩ (Nat.lt_succ_self _))
   ·(simp only [go_sem,hD,hF,hJ,hP,aQ bY];try exact bQ)
   ·(simp only [go_sem,hD,hF,hJ,hP,aQ bY];try exact bQ)
end Go.Abs

/-! ScP -/

namespace Go.Abs
theorem BQ : ∀ (l pre:List ax),x3 pre l=true↔(∃ x∈l,x∈pre)∨¬ l.Nodup
 | [],pre=>by simp [x3]
 | s::l,pre=>by
  simp only [x3]
  by_cases h:c7 pre s=true
  ·simp only [h,if_true,true_iff]
   exact .inl ⟨s,List.mem_cons_self,(eH _ _).1 h⟩
  ·have h':s∉pre:=fun m=>h ((eH _ _).2 m)
   simp only [h,if_false,Bool.false_eq_true]
   rw [BQ l (pre++ [s])]
   simp only [List.mem_append,List.mem_singleton,List.mem_cons,List.nodup_cons,exists_eq_or_imp]
   constructor
   ·rintro(⟨x,m,h1 | h1⟩ | h1)
    ·exact .inl (.inr ⟨x,m,h1⟩)
    ·have h1:x=s:=by simpa using h1
     subst h1;exact .inr fun h=>h.1 m
    ·exact .inr fun h=>h1 h.2
   ·rintro((h1 | ⟨x,m,h1⟩) | h1)
    ·exact absurd h1 h'
    ·exact .inl ⟨x,m, .inl h1⟩
    ·by_cases m:s∈l
     ·exact .inl ⟨s,m, .inr (.inl rfl)⟩
     ·exact .inr fun h=>h1 ⟨m,h⟩
theorem x6 (l:List ax):ey l=true↔¬ l.Nodup:=by
 unfold ey;rw [BQ];simp
theorem Gt (a b:List ax):ey (a++b)=(ey a || (ey b || b.any (c7 a))):=by
 have h:ey (a++b)=true↔(ey a || (ey b || b.any (c7 a)))=true:=by
  rw [x6,List.nodup_append]
  simp only [Bool.or_eq_true,x6,List.any_eq_true,eH]
  constructor
  ·intro h
   by_cases ha:a.Nodup
   ·by_cases hb:b.Nodup
    ·refine .inr (.inr (Classical.byContradiction fun hn=>h ⟨ha,hb,fun x hx y hy e=>hn ⟨y,hy,e ▸ hx⟩⟩))
    ·exact .inr (.inl hb)
   ·exact .inl ha
  ·rintro(h | h | ⟨x,h1,h2⟩) ⟨h3,h4,h5⟩
   ·exact h h3
   ·exact h h4
   ·exact h5 x h2 x h1 rfl
 cases h1:ey (a++b) <;> cases h2:(ey a || (ey b || b.any (c7 a))) <;> simp_all
theorem Ao (name:ax) : ∀ (l:List Pc) (k:Nat),(kn name l=none∧jM name (k:Int) (l.map (·.name)) = -1)∨∃ f j,kn name l=some f∧l[j]? = some f∧jM name (k:Int) (l.map (·.name))=((k+j:Nat):Int)
 | [],k=> .inl ⟨rfl,rfl⟩
 | f::l,k=>by
  by_cases h:f.name=name
  ·subst h
   refine .inr ⟨f,0,by simp [kn],rfl,by simp [jM]⟩
  ·have h1:(f.name==name)=false:=by simp [h]
   have h2:(name==f.name)=false:=by simp [Ne.symm h]
   simp only [kn,h1,Bool.false_eq_true,if_false,List.map_cons,jM,h2]
   rcases Ao name l (k+1)with ⟨g1,g2⟩ | ⟨g,j,g1,g2,g3⟩
   ·exact .inl ⟨g1,by rw [← g2];rfl⟩
   ·refine .inr ⟨g,j+1,g1,by simpa using g2, ?_⟩
    rw [show((k:Int)+1)=((k+1:Nat):Int)from rfl,g3]
    congr 1;omega
theorem kG {name:ax} {f:Pc} : ∀ {l:List Pc},kn name l=some f→f∈l∧f.name=name
 | g::l,h=>by
  simp only [kn]at h
  split at h
  ·rename_i e;cases h;exact⟨List.mem_cons_self,by simpa using e⟩
  ·have:=kG h;exact⟨List.mem_cons_of_mem _ this.1,this.2⟩
end Go.Abs

/-! Sc4 -/

namespace Go.Abs
set_option maxRecDepth 8000
open Go.Proofs
structure Pg.my (p:Pg):Prop where
 NU:p.yS
 sz:p.size≤900000
mutual
theorem NV : ∀ s:Sm,s.p6→s.size<1000000→∀ v∈s.pre,v.pf∧v.om
 | ⟨id,kind,labels,name,proc,x,has,args,bf,bb⟩,h,hs,v,m=>by
  simp only [Sm.p6]at h
  simp only [Sm.size]at hs
  simp only [Sm.pre,List.mem_cons,List.mem_append]at m
  rcases m with rfl | m | m
  ·exact⟨⟨h.1.xt,fun a ha=>(h.1.arg a ha).2.1,by dsimp only;omega⟩,h.1⟩
  ·exact tV bf h.2.1 (by omega) v m
  ·exact tV bb h.2.2 (by omega) v m
theorem tV : ∀ l:List Sm,Sm.gn l→Sm.aT l<1000000→∀ v∈Sm.gd l,v.pf∧v.om
 | [],h,hs,v,m=>by simp [Sm.gd]at m
 | s::l,h,hs,v,m=>by
  simp only [Sm.gn]at h
  simp only [Sm.aT]at hs
  simp only [Sm.gd,List.mem_append]at m
  rcases m with m | m
  ·exact NV s h.1 (by omega) v m
  ·exact tV l h.2 (by omega) v m
end
theorem Pg.my.said {p:Pg} (h:p.my) {f:Pc} (hf:f∈p.procs) : ∀ v∈Sm.gd f.body,v.pf:=fun v m=>by
 have h1:=Pc.b8 hf
 have h2:=h.sz
 simp only [Pg.size]at h2
 simp only [Pc.size]at h1
 exact(tV f.body (h.NU.body f hf) (by omega) v m).1
theorem Pg.my.small {p:Pg} (h:p.my) {f:Pc} (hf:f∈p.procs):f.Small p:=by
 have h1:=Pc.b8 hf
 have h2:=h.sz
 simp only [Pg.size]at h2
 simp only [Pc.size]at h1
 exact⟨by omega,by omega,by omega⟩
theorem Pg.my.procs {p:Pg} (h:p.my):p.procs.length≤900000∧Pc.aT p.procs≤900000∧p.globals.length≤900000:=by
 have h2:=h.sz
 have h3:=Pc.dt p.procs
 simp only [Pg.size]at h2
 omega
def Pg.pn (p:Pg):List ax:=p.procs.map (·.name)
def tq (p:Pg) (f:Pc) (procs:List ax):List Sm→Option Sm
 | []=>none
 | v::l=>if v.known p f procs then tq p f procs l else some v
def pg (p:Pg) (procs:List ax):List Pc→Int×Int
 | []=>(0,0)
 | f::l=>if ey (p.globals++f.own)then(5,0)else match tq p f procs (Sm.gd f.body)with | some v=>(5,v.id) | none=>pg p procs l
def Pg.ph (p:Pg):Bool:=match p.find mw with | none=>true | some m=>decide ((m.params.length:Int) > 0)
def Pg.scope (p:Pg):Int×Int:=
 if p.may then if ey p.globals || (ey p.pn || p.ph)then(5,0)else pg p p.pn p.procs else(1,0)
theorem I5 (p:Pg) (hl:p.globals.length<1000000) (n:ax):aH Try.prog kl ([.str n]++ [.ptr 0 0]) ⟨[b7 p],[]⟩ (.bool (c7 p.globals n)) ⟨[b7 p],[]⟩:=by
 show aH Try.prog kl [.str n, .ptr 0 0] _ _ _
 have Bw:=gI (l:=p.globals) (by omega) n
 refine aH.go ud rfl fun B Q hB hQ=> ?_
 have⟨hD,hF,hJ,hP⟩:=cf
 repeat' (first
 | simp only [go_sem,hD,hF,hJ,hP]
 | (with_reducible refine CU (Bw _ _) ?_)
 | (with_reducible refine aL hQ ?_;simp only [aE,aF,Option.some.injEq,exists_eq_left',go_sem,hD,hF,hJ,hP];repeat' (first | exact Ok.out | with_reducible refine aV ?_ ?_ | (simp;done))))
theorem P2 (n m:Nat) (p:Pg):D.e8 n m (ie p)=ie p:=fw n m _ (xg p)
attribute [go_sem] P2
theorem Lz {p:Pg} {f:Pc} {procs:List ax} {v:Sm} (hs:f.Small p) (x5:procs.length<1000000) (hv:v.pf) (g:Tag) (s:St):aH Try.prog lr [.agg (b7 p), .agg (bP f), .slice g 1 (procs.map encStr), .agg (bl v)] s (.bool (v.known p f procs)) s:=
 cQ.wV (.cons (Wk.refl _) (.cons (Wk.refl _) (.cons (Wk.shared g 1 _) (jk.refl _)))) (Ly hs x5 hv s)
theorem Ap {p:Pg} (h:p.my) (s:St):aH Try.prog lp [.agg (b7 p)] s (.agg [.int .i64 p.scope.1, .int .i64 p.scope.2]) s:=by
 refine aH.pure ?_ (by simp [D.bG,D.ok,lG]) rfl s
 have hm:=fun s=>NM h.NU s
 simp only [BP]at hm
 obtain⟨rS,q4,wi⟩:=h.procs
 have cH:=fun s=>yP (p:=p) (by omega) s
 have kQ:=fun s=>ve (l:=p.globals) (by omega) .shared s
 have hpn:p.pn.length=p.procs.length:=by simp [Pg.pn]
 have vG:=fun g s=>ve (l:=p.pn) (by omega) g s
 have YD:=fun g s=>(BL (l:=p.pn) (by omega) mw s).F9 (Wk.shared g 1 (p.pn.map encStr))
 have vf:=fun g s=>(show aH Try.prog fy [.slice g 1 (p.pn.map encStr), .str [109,97,105,110]] s (.int .i64 (jM mw 0 p.pn)) s from YD g s)
 generalize hR:p.scope=R
 simp only [Pg.scope]at hR
 unfold S0
 rcases Bool.eq_false_or_eq_true p.may with hb | hb
 case inr=>
  simp only [hb]at hm
  simp only [hb,Bool.false_eq_true,if_false]at hR
  subst hR
  refine aH.go pS rfl fun B Q hB hQ=> ?_
  have⟨hD,hF,hJ,hP⟩:=cf
  repeat' (first
 | simp only [go_sem,hD,hF,hJ,hP]
 | (with_reducible refine CU (hm _) ?_)
 | (with_reducible refine aL hQ ?_;simp only [aE,aF,Option.some.injEq,exists_eq_left',go_sem,hD,hF,hJ,hP];repeat' (first | exact Ok.out | with_reducible refine aV ?_ ?_ | (simp;done))))
 simp only [hb]at hm
 simp only [hb,if_true]at hR
 refine aH.go pS rfl fun B Q hB hQ=> ?_
 have⟨hD,hF,hJ,hP⟩:=cf
 repeat' (first
 | simp only [go_sem,hD,hF,hJ,hP]
 | (with_reducible refine CU (hm _) ?_)
 | (with_reducible refine aL hQ ?_;simp only [aE,aF,Option.some.injEq,exists_eq_left',go_sem,hD,hF,hJ,hP];repeat' (first | exact Ok.out | with_reducible refine aV ?_ ?_ | (simp;done))))
 refine bx.uU 3 1 rfl ?_
 simp only [go_sem,hD,hF,hJ,hP]
 refine dM 2 1 (bx.ind (ι:=List Pc×Nat×List ax×Nat) (fun i=>p.procs.drop i.2.1=i.1∧i.2.2.1++i.1.map (·.name)=p.pn∧i.2.2.2=i.2.2.1.length) (fun i=>i.1.length)
  (fun i=> [(1, .ptr 0 0),(2, .ptr 1 0),(3, .slice (.tok 0) 1 (i.2.2.1.map encStr)),(18, .slice .shared 5 (p.procs.map bP)),(19, .int .i64 (p.procs.length:Int)),(20, .int .i64 (i.2.1:Int))]) (fun i=>⟨[b7 p,[.int .i64 0, .int .i64 0]],[some i.2.2.2]⟩) ?_ (p.procs,0,[],0) ⟨rfl,rfl,rfl⟩)
 rintro⟨rest,k,out,n⟩ ⟨h1,h2,h3⟩ IH
 dsimp only at h1 h2 h3
 subst h3
 have YC:out.length+rest.length≤900000:=by
  have:=congrArg List.length h2
  simp only [List.length_append,List.length_map]at this
  omega
 cases rest with
 | cons a rest=>
  obtain⟨hF,g2,hD,g4⟩:=drop_cons h1
  have bY:k<4611686018427387904:=by omega
  have hJ:(out.length+1)*17≤bO:=by unfold bO;omega
  repeat' (first
 | simp only [go_sem,hD,hF,hJ,hP]
 | (with_reducible refine aL hQ ?_;simp only [aE,aF,Option.some.injEq,exists_eq_left',go_sem,hD,hF,hJ,hP];repeat' (first | exact Ok.out | with_reducible refine aV ?_ ?_ | (simp;done))))
  refine ep 2 1 ?_ ?_ (IH (rest,k+1,out++ [a.name],out.length+1) ⟨g2,by rw [← h2];simp,by simp⟩ (Nat.lt_succ_self _))
  ·(simp only [go_sem,hD,hF,hJ,hP,aQ bY,List.map_append,List.map_cons,List.map_nil,encStr];try exact bQ)
  ·(simp only [go_sem,hD,hF,hJ,hP,aQ bY,List.map_append,List.map_cons,List.map_nil,encStr];try exact bQ)
 | nil=>
  have hD:=drop_nil h1
  simp only [List.map_nil,List.append_nil]at h2
  subst h2
  rcases Bool.eq_false_or_eq_true (ey p.globals)with b1 | b1
  ·simp only [b1,Bool.true_or,if_true]at hR
   subst hR
   repeat' (first
 | simp only [go_sem,hD,hF,hJ,hP,b1]
 | (with_reducible refine CU (vf _ _) ?_)
 | (with_reducible refine CU (kQ _) ?_)
 | (with_reducible refine CU (vG _ _) ?_)
 | (with_reducible refine aL hQ ?_;simp only [aE,aF,Option.some.injEq,exists_eq_left',go_sem,hD,hF,hJ,hP];repeat' (first | exact Ok.out | with_reducible refine aV ?_ ?_ | (simp;done))))
  rcases Bool.eq_false_or_eq_true (ey p.pn)with b2 | b2
  ·simp only [b1,b2,Bool.true_or,Bool.or_true,if_true]at hR
   subst hR
   repeat' (first
 | simp only [go_sem,hD,hF,hJ,hP,b1,b2]
 | (with_reducible refine CU (vf _ _) ?_)
 | (with_reducible refine CU (kQ _) ?_)
 | (with_reducible refine CU (vG _ _) ?_)
 | (with_reducible refine aL hQ ?_;simp only [aE,aF,Option.some.injEq,exists_eq_left',go_sem,hD,hF,hJ,hP];repeat' (first | exact Ok.out | with_reducible refine aV ?_ ?_ | (simp;done))))
  rcases Ao mw p.procs 0 with ⟨e1,e2⟩ | ⟨m,j,e1,e2,e3⟩
  ·have b3:p.ph=true:=by unfold Pg.ph Pg.find;rw [e1]
   have hi:jM mw 0 p.pn = -1:=e2
   simp only [b1,b2,b3,Bool.or_true,if_true]at hR
   subst hR
   simp only [hi]at vf
   have d1:decide ((-1:Int)<0)=true:=by decide
   repeat' (first
 | simp only [go_sem,hD,hF,hJ,hP,b1,b2,d1]
 | (with_reducible refine CU (vf _ _) ?_)
 | (with_reducible refine CU (kQ _) ?_)
 | (with_reducible refine CU (vG _ _) ?_)
 | (with_reducible refine aL hQ ?_;simp only [aE,aF,Option.some.injEq,exists_eq_left',go_sem,hD,hF,hJ,hP];repeat' (first | exact Ok.out | with_reducible refine aV ?_ ?_ | (simp;done))))
  have hi:jM mw 0 p.pn=((j:Nat):Int):=by rw [show p.pn=p.procs.map (·.name)from rfl];simpa using e3
  simp only [hi]at vf
  have d1:decide (((j:Nat):Int)<0)=false:=by simp
  have hj:j<p.procs.length:=(List.getElem?_eq_some_iff.1 e2).1
  have b3:p.ph=decide ((m.params.length:Int) > 0):=by unfold Pg.ph Pg.find;rw [e1]
  rw [b3]at hR
  rcases Bool.eq_false_or_eq_true (decide ((m.params.length:Int) > 0))with b4 | b4
  ·simp only [b1,b2,b4,Bool.or_true,if_true]at hR
   subst hR
   repeat' (first
 | simp only [go_sem,hD,hF,hJ,hP,b1,b2,d1,e2,b4]
 | (with_reducible refine CU (vf _ _) ?_)
 | (with_reducible refine CU (kQ _) ?_)
 | (with_reducible refine CU (vG _ _) ?_)
 | (with_reducible refine aL hQ ?_;simp only [aE,aF,Option.some.injEq,exists_eq_left',go_sem,hD,hF,hJ,hP];repeat' (first | exact Ok.out | with_reducible refine aV ?_ ?_ | (simp;done))))
  simp only [b1,b2,b4,Bool.or_false,Bool.false_eq_true,if_false]at hR
  repeat' (first
 | simp only [go_sem,hD,hF,hJ,hP,b1,b2,d1,e2,b4]
 | (with_reducible refine CU (vf _ _) ?_)
 | (with_reducible refine CU (kQ _) ?_)
 | (with_reducible refine CU (vG _ _) ?_)
 | (with_reducible refine CU (cH _) ?_)
 | (with_reducible refine aL hQ ?_;simp only [aE,aF,Option.some.injEq,exists_eq_left',go_sem,hD,hF,hJ,hP];repeat' (first | exact Ok.out | with_reducible refine aV ?_ ?_ | (simp;done))))
  refine dM 2 1 (bx.ind (ι:=List Pc×Nat) (fun i=>p.procs.drop i.2=i.1∧pg p p.pn i.1=R) (fun i=>i.1.length)
   (fun i=> [(1, .ptr 0 0),(2, .ptr 1 0),(3, .slice (.tok 0) 1 (p.pn.map encStr)),(7, .cD (ie p) 0),(57, .slice .shared 5 (p.procs.map bP)),(58, .int .i64 (p.procs.length:Int)),(59, .int .i64 (i.2:Int))]) (fun i=>⟨[b7 p,[.int .i64 0, .int .i64 0]],[some p.pn.length]⟩) ?_ (p.procs,0) ⟨rfl,hR⟩)
  clear IH h1 hD hR
  rintro⟨rest,k⟩ ⟨h1,hR⟩ IH
  dsimp only at h1 hR
  cases rest with
  | nil=>
   have hD:=drop_nil h1
   simp only [pg]at hR
   subst hR
   repeat' (first
 | simp only [go_sem,hD,hF,hJ,hP]
 | (with_reducible refine aL hQ ?_;simp only [aE,aF,Option.some.injEq,exists_eq_left',go_sem,hD,hF,hJ,hP];repeat' (first | exact Ok.out | with_reducible refine aV ?_ ?_ | (simp;done))))
  | cons f rest=>
   obtain⟨hF,g2,hD,g4⟩:=drop_cons h1
   have bY:k<4611686018427387904:=by omega
   have Kj:=List.mem_of_getElem? hF
   have BR:=h.small Kj
   have Gu:=fun s=>P1 (f:=f) BR.par BR.vars s
   have k9:f.own.length<4611686018427387904:=by have h1:=BR.par;have h2:=BR.vars;unfold Pc.own Pc.wv;simp;omega
   have NW:=fun s=>ve (l:=f.own) k9 .shared s
   have Aq:=fun {s:St} {o:Nat} (ho:s.al[o]? = some (b7 p))=>qZ (l:=f.own) k9 (f:=kl) (row:=b7 p) (b:=c7 p.globals) (lG p) (by with_unfolding_all rfl) (fun x _=>I5 p BR.Af x) ho
   have I6:=fun {s:St} {o:Nat} (ho:s.al[o]? = some (b7 p))=>(show aH Try.prog dN [.slice .shared 1 (f.own.map encStr), .ez 35 [.ptr o 0]] s (.bool (f.own.any (c7 p.globals))) s from Aq ho)
   simp only [pg,Gt,b1,Bool.false_or]at hR
   rcases Bool.eq_false_or_eq_true (ey f.own)with c1 | c1
   ·simp only [c1,Bool.true_or,if_true]at hR
    subst hR
    repeat' (first
 | simp only [go_sem,hD,hF,hJ,hP,c1]
 | (with_reducible refine CU (Gu _) ?_)
 | (with_reducible refine CU (NW _) ?_)
 | (with_reducible refine CU (I6 (by with_unfolding_all rfl)) ?_)
 | (with_reducible refine aL hQ ?_;simp only [aE,aF,Option.some.injEq,exists_eq_left',go_sem,hD,hF,hJ,hP];repeat' (first | exact Ok.out | with_reducible refine aV ?_ ?_ | (simp;done))))
   rcases Bool.eq_false_or_eq_true (f.own.any (c7 p.globals))with c2 | c2
   ·simp only [c1,c2,Bool.false_or,if_true]at hR
    subst hR
    repeat' (first
 | simp only [go_sem,hD,hF,hJ,hP,c1,c2]
 | (with_reducible refine CU (Gu _) ?_)
 | (with_reducible refine CU (NW _) ?_)
 | (with_reducible refine CU (I6 (by with_unfolding_all rfl)) ?_)
 | (with_reducible refine aL hQ ?_;simp only [aE,aF,Option.some.injEq,exists_eq_left',go_sem,hD,hF,hJ,hP];repeat' (first | exact Ok.out | with_reducible refine aV ?_ ?_ | (simp;done))))
   simp only [c1,c2,Bool.or_self,Bool.false_eq_true,if_false]at hR
   obtain⟨it,q5,Gv⟩:=IP hF (by omega)
   rw [← q5]at hR
   have NY:it.length≤900000:=by
    have e:=congrArg List.length q5
    have e2:=(pY p).2 k f hF
    obtain⟨a,b,e',_,_,e3,e4⟩:=e2
    have e5:=pZ p
    have e6:=congrArg List.length e3
    rw [e4]at e5
    simp only [List.length_map,List.length_append]at e e5 e6
    omega
   repeat' (first
 | simp only [go_sem,hD,hF,hJ,hP,c1,c2]
 | (with_reducible refine CU (Gu _) ?_)
 | (with_reducible refine CU (NW _) ?_)
 | (with_reducible refine CU (I6 (by with_unfolding_all rfl)) ?_)
 | (with_reducible refine CU (Gv _) ?_)
 | (with_reducible refine aL hQ ?_;simp only [aE,aF,Option.some.injEq,exists_eq_left',go_sem,hD,hF,hJ,hP];repeat' (first | exact Ok.out | with_reducible refine aV ?_ ?_ | (simp;done))))
   obtain⟨q,hq⟩ : ∃ q,tq p f p.pn (it.map Im.s)=q:=⟨_,rfl⟩
   rw [hq]at hR
   refine dM 3 1 (bx.ind (ι:=List Im×Nat) (fun i=>it.drop i.2=i.1∧tq p f p.pn (i.1.map Im.s)=q) (fun i=>i.1.length)
    (fun i=> [(1, .ptr 0 0),(2, .ptr 1 0),(3, .slice (.tok 0) 1 (p.pn.map encStr)),(7, .cD (ie p) 0),(9, .ptr 2 0),(57, .slice .shared 5 (p.procs.map bP)),(58, .int .i64 (p.procs.length:Int)),(59, .int .i64 (k:Int)),(76, .slice .shared 17 (it.map dX)),(77, .int .i64 (it.length:Int)),(78, .int .i64 (i.2:Int))]) (fun i=>⟨[b7 p,[.int .i64 0, .int .i64 0],bP f],[some p.pn.length]⟩) ?_ (it,0) ⟨rfl,hq⟩)
   rintro⟨Eg,n⟩ ⟨j1,j2⟩ Kl
   dsimp only at j1 j2
   have oU:=hD
   cases Eg with
   | nil=>
    have Sb:=drop_nil j1
    simp only [List.map_nil,tq]at j2
    subst j2
    simp only at hR
    repeat' (first
 | simp only [go_sem,hD,hF,hJ,hP,Sb]
 | (with_reducible refine aL hQ ?_;simp only [aE,aF,Option.some.injEq,exists_eq_left',go_sem,hD,hF,hJ,hP];repeat' (first | exact Ok.out | with_reducible refine aV ?_ ?_ | (simp;done))))
    refine ep 2 1 ?_ ?_ (IH (rest,k+1) ⟨g2,hR⟩ (Nat.lt_succ_self _))
    ·(simp only [go_sem,hD,hF,hJ,hP,aQ bY];try exact bQ)
    ·(simp only [go_sem,hD,hF,hJ,hP,aQ bY];try exact bQ)
   | cons i Eg=>
    obtain⟨qB,BS,As,QV⟩:=drop_cons j1
    have uC:n<4611686018427387904:=by omega
    have YE:i.s∈Sm.gd f.body:=by rw [← q5];exact List.mem_map_of_mem (List.mem_of_getElem? qB)
    have QW:=Lz (v:=i.s) BR (procs:=p.pn) (by omega) (h.said Kj _ YE)
    simp only [List.map_cons,tq]at j2
    rcases Bool.eq_false_or_eq_true (i.s.known p f p.pn)with c3 | c3
    ·simp only [c3,if_true]at j2
     repeat' (first
 | simp only [go_sem,hD,hF,hJ,hP,As,qB,c3]
 | (with_reducible refine CU (QW _ _) ?_)
 | (with_reducible refine aL hQ ?_;simp only [aE,aF,Option.some.injEq,exists_eq_left',go_sem,hD,hF,hJ,hP];repeat' (first | exact Ok.out | with_reducible refine aV ?_ ?_ | (simp;done))))
     refine ep 3 1 ?_ ?_ (Kl (Eg,n+1) ⟨BS,j2⟩ (Nat.lt_succ_self _))
     ·(simp only [go_sem,hD,hF,hJ,hP,aQ uC];try exact bQ)
     ·(simp only [go_sem,hD,hF,hJ,hP,aQ uC];try exact bQ)
    ·simp only [c3,Bool.false_eq_true,if_false]at j2
     subst j2
     simp only at hR
     subst hR
     repeat' (first
 | simp only [go_sem,hD,hF,hJ,hP,As,qB,c3]
 | (with_reducible refine CU (QW _ _) ?_)
 | (with_reducible refine aL hQ ?_;simp only [aE,aF,Option.some.injEq,exists_eq_left',go_sem,hD,hF,hJ,hP];repeat' (first | exact Ok.out | with_reducible refine aV ?_ ?_ | (simp;done))))
end Go.Abs

/-! Rng -/

namespace Go.Abs
mutual
def Ex.mz:Ex→Prop
 | ⟨_,n,_,kids⟩=>n≤9223372036854775807∧Ex.qC kids
def Ex.qC:List Ex→Prop
 | []=>True
 | x::l=>x.mz∧Ex.qC l
end
end Go.Abs

/-! FineM -/

namespace Go.Abs
mutual
def Sm.mz:Sm→Prop
 | ⟨_,_,_,_,_,x,_,args,bf,bb⟩=>x.mz∧(∀ a∈args,a.x.mz)∧Sm.qC bf∧Sm.qC bb
def Sm.qC:List Sm→Prop
 | []=>True
 | s::l=>s.mz∧Sm.qC l
end
def Pg.mz (p:Pg):Prop:=∀ f∈p.procs,Sm.qC f.body
theorem x7 {f:Pc} : ∀ {l:List Pc} {n:Nat},Pc.c9 n l=true→f∈l→(isName f.name=true∧cT f.vars=true∧cT f.fin=true∧Pm.ea f.params=true)∧∃ n,(Sm.ef 1 n f.body).1=true
 | g::l,n,h,m=>by
  simp only [Pc.c9]at h
  split at h
  ·cases h
  rename_i c1
  split at h
  ·cases h
  rename_i c2
  split at h
  ·cases h
  rename_i c3
  simp only [Bool.or_eq_true,Bool.not_eq_true',not_or,Bool.not_eq_false]at c1 c2 c3
  rcases List.mem_cons.1 m with rfl | m
  ·exact⟨⟨c1.1.1.2,c1.1.2,c1.2,c2⟩,n,c3⟩
  ·exact x7 h m
mutual
theorem Eh : ∀ (s:Sm) (nest:Int) (n:Nat),(Sm.kX nest n s).1=true→s.size<4611686018427387000→s.p6
 | ⟨id,kind,labels,name,proc,x,has,args,bf,bb⟩,nest,n,hm,hs=>by
  obtain⟨_,_,h1,h2,h3,_⟩:=xZ hm
  rw [vb]
  rw [(nW h2).2]at h2
  rw [(nW h3).2]at h3
  refine⟨Aj h1 hs,oI bf _ _ h2 ?_,oI bb _ _ h3 ?_⟩ <;> simp only [Sm.size]at hs <;> omega
theorem oI : ∀ (l:List Sm) (nest:Int) (n:Nat),(Sm.c9 nest n l).1=true→Sm.aT l<4611686018427387000→Sm.gn l
 | [],_,_,_,_=>by simp only [Sm.gn]
 | s::l,nest,n,hm,hs=>by
  simp only [Sm.c9]at hm
  simp only [Sm.aT]at hs
  split at hm
  ·cases hm
  rename_i hc
  simp only [Bool.not_eq_true',Bool.not_eq_false]at hc
  exact⟨Eh s nest n hc (by omega),oI l nest _ hm (by omega)⟩
end
theorem Gw {p:Pg} (h:p.may=true) (hs:p.size<4611686018427387000):p.yS:=by
 have hf:=IZ h hs
 rw [← BP]at h
 unfold Pg.xk at h
 split at h
 ·cases h
 refine⟨hf.sz,hf.Af,hf.lx,fun f m=> ?_⟩
 obtain⟨_,n,e⟩:=x7 h m
 rw [(nW e).2]at e
 have:=Pc.b8 m
 simp only [Pg.size]at hs
 exact oI f.body 1 n e (by unfold Pc.size at this;omega)
end Go.Abs

/-! Sc5 -/

namespace Go.Abs
open Go.Proofs
theorem I7 (x:It):(ig x)[1]? = some (.int .i64 x.s.kind):=nd rfl
theorem I8 (x:It):(ig x)[3]? = some (.str x.s.name):=nd rfl
theorem I9 (x:It):(ig x)[4]? = some (.str x.s.proc):=nd rfl
theorem LA (x:It):List.take 16 (ig x)=ig x:=nd rfl
attribute [go_sem] I7 I8 I9 LA
end Go.Abs

/-! Ar1 -/

namespace Go.Abs
set_option maxRecDepth 8000
open Go.Proofs
def Km:List Pm→List Ar→Bool
 | [],_=>true
 | _,[]=>true
 | a::l,b::m=>if a.ref==b.ref then Km l m else false
def P3 (l:List Pm) (m:List Ar):Bool:=if(l.length:Int)==(m.length:Int)then Km l m else false
def Sm.P4 (p:Pg) (v:Sm):Bool:=v.kind==4 && match p.find v.proc with | none=>false | some q=>P3 q.params v.args
end Go.Abs

/-! Ar2 -/

namespace Go.Abs
set_option maxRecDepth 8000
open Go.Proofs
def QX (p:Pg):List Sm→Option Sm
 | []=>none
 | v::l=>if v.kind==4 && !(v.P4 p)then some v else QX p l
def N0 (c:Int):Option Sm→Int×Int
 | some v=>(c,v.id)
 | none=>(0,0)
def Pg.arity (p:Pg):Int×Int:=if p.scope.1==0 then N0 6 (QX p p.pre)else(1,0)
end Go.Abs

/-! Ar3 -/

namespace Go.Abs
open Go.Proofs
theorem Gx {p:Pg} (h:(p.scope.1==0)=true):p.may=true:=by
 unfold Pg.scope at h
 split at h
 ·assumption
 ·cases h
end Go.Abs

/-! Srt1 -/

namespace Go.Abs
open Go.Proofs
def jw (out:List ax):List ax→ax→Bool→ax×Bool
 | [],c,a=>(c,a)
 | s::l,c,a=>if !(c7 out s) && (!a || bytesLess s c)then jw out l s true else jw out l c a
def Gy (l out:List ax):List ax:=if(jw out l [] false).2 then out++ [(jw out l [] false).1]else out
def kM (l:List ax):Nat→List ax→List ax
 | 0,out=>out
 | n+1,out=>kM l n (Gy l out)
def gi (l:List ax):List ax:=kM l l.length []
end Go.Abs

/-! Shelf -/

namespace Go.Proofs
open Go.Shelf
def Try.Bk:Go.Shelf.Ren:=⟨fun | 190=>44 | 125=>69 | 258=>68 | 128=>90 | 129=>91 | 302=>81 | 303=>82 | 304=>83 | 305=>84 | 306=>85 | 307=>86 | 308=>87 | 309=>88 | 310=>89 | 333=>98 | 329=>99 | 330=>100 | 334=>101 | 335=>102 | 336=>103 | 344=>106 | n=>n,fun | 31=>22 | 9=>9 | 3=>3 | 46=>110 | 0=>0 | 51=>129 | 53=>131 | 4=>4 | 183=>121 | 182=>120 | 131=>126 | 5=>5 | 218=>137 | 222=>141 | 228=>144 | 229=>145 | n=>n,fun | n=>n⟩
theorem Try.BT:Go.Proofs.Lays.n190 Try.prog Try.Bk:= {
 mixed:=by kernel_rfl
 f125:=Try.func69.trans (congrArg some (by kernel_rfl))
 f128:=Try.func90.trans (congrArg some (by kernel_rfl))
 f129:=Try.func91.trans (congrArg some (by kernel_rfl))
 f190:=Try.func44.trans (congrArg some (by kernel_rfl))
 f258:=Try.func68.trans (congrArg some (by kernel_rfl))
 f302:=Try.func81.trans (congrArg some (by kernel_rfl))
 f303:=Try.func82.trans (congrArg some (by kernel_rfl))
 f304:=Try.func83.trans (congrArg some (by kernel_rfl))
 f305:=Try.func84.trans (congrArg some (by kernel_rfl))
 f306:=Try.func85.trans (congrArg some (by kernel_rfl))
 f307:=Try.func86.trans (congrArg some (by kernel_rfl))
 f308:=Try.func87.trans (congrArg some (by kernel_rfl))
 f309:=Try.func88.trans (congrArg some (by kernel_rfl))
 f310:=Try.func89.trans (congrArg some (by kernel_rfl))
 f329:=Try.func99.trans (congrArg some (by kernel_rfl))
 f330:=Try.func100.trans (congrArg some (by kernel_rfl))
 f333:=Try.func98.trans (congrArg some (by kernel_rfl))
 f334:=Try.func101.trans (congrArg some (by kernel_rfl))
 f335:=Try.func102.trans (congrArg some (by kernel_rfl))
 f336:=Try.func103.trans (congrArg some (by kernel_rfl))
 f344:=Try.func106.trans (congrArg some (by kernel_rfl))
 t0:=Try.underlying0
 a0:=Try.isAgg0
 z0:=Try.sizeOf0
 v0:=Try.zeroValue0
 t3:=Try.underlying3
 a3:=Try.isAgg3
 z3:=Try.sizeOf3
 v3:=Try.zeroValue3
 t4:=Try.underlying4
 a4:=Try.isAgg4
 z4:=Try.sizeOf4
 v4:=Try.zeroValue4
 t5:=Try.underlying5
 a5:=Try.isAgg5
 z5:=Try.sizeOf5
 v5:=Try.zeroValue5
 t9:=Try.underlying9
 a9:=Try.isAgg9
 z9:=Try.sizeOf9
 v9:=Try.zeroValue9
 t31:=Try.underlying22
 a31:=Try.isAgg22
 z31:=Try.sizeOf22
 v31:=Try.zeroValue22
 t46:=Try.underlying110
 a46:=Try.isAgg110
 z46:=Try.sizeOf110
 v46:=Try.zeroValue110
 t51:=Try.underlying129
 a51:=Try.isAgg129
 z51:=Try.sizeOf129
 v51:=Try.zeroValue129
 t53:=Try.underlying131
 a53:=Try.isAgg131
 z53:=Try.sizeOf131
 v53:=Try.zeroValue131
 t131:=Try.underlying126
 a131:=Try.isAgg126
 z131:=Try.sizeOf126
 v131:=Try.zeroValue126
 t182:=Try.underlying120
 a182:=Try.isAgg120
 z182:=Try.sizeOf120
 v182:=Try.zeroValue120
 t183:=Try.underlying121
 a183:=Try.isAgg121
 z183:=Try.sizeOf121
 v183:=Try.zeroValue121
 t218:=Try.underlying137
 a218:=Try.isAgg137
 z218:=Try.sizeOf137
 v218:=Try.zeroValue137
 t222:=Try.underlying141
 a222:=Try.isAgg141
 z222:=Try.sizeOf141
 v222:=Try.zeroValue141
 t228:=Try.underlying144
 a228:=Try.isAgg144
 z228:=Try.sizeOf144
 v228:=Try.zeroValue144
 t229:=Try.underlying145
 a229:=Try.isAgg145
 z229:=Try.sizeOf145
 v229:=Try.zeroValue145}
open Go.Sort Go.RowKit in
theorem Try.slices_Sort_string (tr off cap:Nat) (ss:List (List UInt8)) (w:World) (hH:Holds encStr w tr off ss.toArray) (Sc:tr<w.heap.size) (dr:ss.length<4611686018427387904) :
 Calls Try.prog 44 #[.slice (some ⟨tr,off,none⟩) ss.length cap] w fun e w'=>
  e = .returned (.tuple #[])∧∃ n os,w'=grow (putRow encStr (Sort.ahead w n) tr off (ss.mergeSort fun x y=>decide (x≤y)).toArray) os:=Any.slices_Sort_string Try.BT tr off cap ss w hH Sc dr
def Try.Bl:Go.Shelf.Ren:=⟨fun | 194=>45 | n=>n,fun | 31=>22 | 9=>9 | 3=>3 | 4=>4 | 0=>0 | n=>n,fun | n=>n⟩
theorem Try.BU:Go.Proofs.Lays.n194 Try.prog Try.Bl:= {
 mixed:=by kernel_rfl
 f194:=Try.func45.trans (congrArg some (by kernel_rfl))
 t0:=Try.underlying0
 a0:=Try.isAgg0
 z0:=Try.sizeOf0
 v0:=Try.zeroValue0
 t3:=Try.underlying3
 a3:=Try.isAgg3
 z3:=Try.sizeOf3
 v3:=Try.zeroValue3
 t4:=Try.underlying4
 a4:=Try.isAgg4
 z4:=Try.sizeOf4
 v4:=Try.zeroValue4
 t9:=Try.underlying9
 a9:=Try.isAgg9
 z9:=Try.sizeOf9
 v9:=Try.zeroValue9
 t31:=Try.underlying22
 a31:=Try.isAgg22
 z31:=Try.sizeOf22
 v31:=Try.zeroValue22}
open Go.RowKit Go.Lib Go.Sort in
theorem Try.slices_Compact_string (tr off cap:Nat) (zs:List (List UInt8)) (w:World) (hH:Holds encStr w tr off zs.toArray) (dr:zs.length≤9223372036854775807) (n6:zs.length≤cap) :
 Calls Try.prog 45 #[.slice (some ⟨tr,off,none⟩) zs.length cap] w fun e w'=>e = .returned (.slice (some ⟨tr,off,none⟩) (Lib.compact zs).length cap)∧∃ q,w'=putRow encStr (Sort.ahead w q) tr off (Lib.compact zs++List.replicate (zs.length - (Lib.compact zs).length) []).toArray:=Any.slices_Compact_string Try.BU tr off cap zs w hH dr n6
open Go.RowKit Go.Lib Go.Sort in
theorem Try.slices_Compact_string_empty (a:Option Addr) (cap:Nat) (w:World) :
 Calls Try.prog 45 #[.slice a 0 cap] w fun e w'=>e = .returned (.slice a 0 cap)∧w'=w:=Any.slices_Compact_string_empty Try.BU a cap w
open Go.RowKit Go.Sort in
theorem Try.slices_Sort_string_none (p:Option Addr) (cap:Nat) (w:World) :
 Calls Try.prog 44 #[.slice p 0 cap] w fun e w'=>e = .returned (.tuple #[])∧w'=w:=Any.slices_Sort_string_none Try.BT p cap w
end Go.Proofs

/-! SortR -/

namespace Go.Abs
open Go.Proofs
section
variable {P:Program} {B:eR} {nt:Nat}
theorem LB {x:Operand} {t:Nat} (h:cX x=some (.s t)):x = .tmp t:=by
 unfold cX at h
 split at h
 ·cases h;rfl
 ·obtain⟨d,_,h⟩:=map_some h;cases h
 ·cases h
 ·cases h
theorem Ei {ops:Array Oper} {o:Oper} {g g':Option (Nat×Bool)} {dst:Option Nat} {f:Nat} {xs:List X} (h:nn P ops o g=some (.call dst g' f xs)) :
 g'=g∧∃ args jS,o.op = .call ⟨.value (.func f),args,jS⟩∧enters P f=true∧qJ args.toList=some xs:=by
 unfold nn at h
 split at h
 ·rename_i f' args jS iY
  split at h
  ·rename_i he
   obtain⟨xs',h1,h2⟩:=map_some h
   cases h2
   exact⟨rfl,args,jS,iY,he,h1⟩
  ·cases h
 ·obtain⟨_,_,h⟩:=map_some h;cases h
 ·split at h
  ·cases h
  ·split at h <;> cases h
theorem Gz {ops:Array Oper} {o:Oper} {tmps:Array Value} (hg:oO ops o.guard=some none):Region.wanted o (yielded ops tmps)=true:=by
 have:o.guard=none:=by
  cases xA:o.guard with
  | none=>rfl
  | some p=>
   obtain⟨j,b⟩:=p
   rw [xA]at hg
   unfold oO at hg
   simp only at hg
   split at hg <;> cases hg
 simp [Region.wanted,this]
theorem Sem.N2 {a k b f:Nat} {is:List AI} {Q:Exit→Tm→St→Prop} {tm:Tm} {s:St}
 (P5 : ∀ act w,Holds B nt (tm.put (some a) (tm.get k)) s act w→Calls P f #[act.tmps.getD a Go.undef] w fun e w'=>∃ v,e = .returned v∧∃ bd s',Holds B nt bd s' (act.put (some b) v) w'∧fk P is (Q .normal) bd s') :
 Sem P B nt (.run (.op (some a) none (.mv (.s k)):: .call (some b) none f [.s a]::is)) Q tm s:=by
 intro c hc act w hh
 obtain⟨id,ops,rfl,hi⟩:=iH hc
 refine wp_region ?_
 have key : ∀ (l:List Nat) (ol:List Oper),l.map (ops[·]?)=ol.map some→lX P nt ops ol=some (.op (some a) none (.mv (.s k)):: .call (some b) none f [.s a]::is)→wpOps P ops (kS B nt Q) l act w:=by
  intro l ol hl qn
  match ol,l,hl with
  | [],_,_=>simp [lX]at qn
  | o0::ol,[],hl=>simp at hl
  | o0::ol,j0::l,hl=>
   simp only [List.map_cons,List.cons.injEq]at hl
   obtain⟨YF,hl⟩:=hl
   unfold lX at qn
   split at qn
   ·rename_i i0 is0 h1 h2
    cases qn
    match ol,l,hl,h2 with
    | [],_,_,h2=>simp [lX]at h2
    | o1::ol,[],hl,_=>simp at hl
    | o1::ol,j1::l,hl,h2=>
     simp only [List.map_cons,List.cons.injEq]at hl
     obtain⟨YG,hl⟩:=hl
     unfold lX at h2
     split at h2
     ·rename_i i1 is1 h3 h4
      cases h2
      obtain⟨M,e,r,ht,hn,hd⟩:=hh
      have Kn:=nO h1
      have Ko:=nO h3
      simp only [AI.dst]at Kn Ko
      refine qm (K':=fun bd s'=>bd=tm.put (some a) (tm.get k)∧s'=s) YF h1 r (B.laid.ext e) ht (by simp only [fk,guarded,aD,X.ev,and_self]) (fun d v s1 w1 M1 hk e1 r1 hv=> ?_)
      obtain⟨uk,rfl⟩:=hk
      have hH:=Holds.put e ht hn hd (qP h1) e1 r1 hv
      simp only [AI.dst]at uk
      rw [← Kn]at hH ⊢
      rw [uk]at hH
      obtain⟨g,hg,_,hb⟩:=sW h3
      obtain⟨rfl,args,jS,iY,rm,kg⟩:=Ei hb
      simp only [wpOps,YG,Gz hg,if_true]
      left
      have Sd:args.map (act.put (some a) v).eval = #[(act.put (some a) v).tmps.getD a Go.undef]:=by
       have:args.toList = [.tmp a]:=by
        match hA:args.toList with
        | []=>rw [hA]at kg;simp [qJ]at kg
        | [x]=>
         rw [hA]at kg
         simp only [qJ]at kg
         split at kg
         ·rename_i x' r' hx hr
          cases kg
          rw [LB hx]
         ·cases kg
        | x::y::z=>
         rw [hA]at kg
         simp only [qJ]at kg
         split at kg
         ·rename_i x' r' hx hr
          cases kg
          split at hr
          ·cases hr
          ·cases hr
         ·cases kg
       have:args = #[.tmp a]:=by rw [← Array.toArray_toList (xs:=args),this]
       rw [this]
       simp only [List.map_toArray,List.map_cons,List.map_nil]
       rfl
      have hex:(execOp (act.put (some a) v).eval o1).run P w1 = .ok (.enter f #[(act.put (some a) v).tmps.getD a Go.undef]) w1:=by
       obtain⟨dst,op,type,pos,after,guard⟩:=o1
       simp only at iY
       subst iY
       rw [← Sd]
       exact qh (act.put (some a) v).eval dst f args jS type pos after guard rfl rm w1
      unfold Oper.wp
      rw [hex,Oper.upon_enter]
      refine(P5 _ _ hH).mono ?_
      rintro en w' ⟨v',rfl,bd,s',YH,YI⟩
      rw [← Ko]
      exact sR (Q:=Q) l ol _ hl h4 bd s' _ w' YI YH
     ·cases h2
   ·cases qn
 exact key _ _ (sS ops) hi
theorem x8 (hB:B.s = ⟨[],[]⟩) {tm:Tm} {s:St} {act:Act} {w:World} (h:Holds B nt tm s act w) {t:Nat} {l:List ax} (ht:s.aq[t]? = some (some l.length)) {k0:Nat} (NQ:tm.get k0 = .slice (.tok t) 1 (l.map encStr)) :
 (l = []∧∀ k,tm.get k = .slice (.tok t) 1 (l.map encStr)→(act.tmps.getD k Go.undef = .slice none 0 0∨∃ b q,act.tmps.getD k Go.undef = .slice (some ⟨b,q,none⟩) 0 0))∨
 ∃ (b cap:Nat) (vs:Array Value) (T:TypeId),(∀ k,tm.get k = .slice (.tok t) 1 (l.map encStr)→act.tmps.getD k Go.undef = .slice (some ⟨b,0,none⟩) l.length cap)∧l.length≤cap∧w.heap[b]? = some (.cells vs T (0,0))∧vs.size=cap∧B.w.heap.size≤b∧
  ∀ j (hj:j<l.length),vs[j]? = some (.string ⟨⟨l[j]⟩⟩):=by
 obtain⟨M,e,r,hr,_,_⟩:=h
 rcases r.tok t _ ht with ⟨h3,h4⟩ | ⟨b,cap,z,vs,T,h3,h4,h5,h6,h7⟩
 ·have hl:l = []:=List.eq_nil_of_length_eq_zero h4
  subst hl
  refine .inl ⟨rfl,fun k hk=> ?_⟩
  have hv:=hr k
  rw [hk]at hv
  generalize act.tmps.getD k Go.undef=v at hv
  cases hv with
  | fX _ _ cap hc kQ=>subst hc;exact .inl rfl
  | slice _ _ _ b q cap hl hs h1 h2 kQ=>
   rcases(kQ.2 _ ht).2 rfl with ⟨_,h0,_⟩ | ⟨b',_,gy⟩
   ·subst h0;exact .inr ⟨b,q,rfl⟩
   ·rw [h3]at gy;cases gy
 ·right
  have each : ∀ k,tm.get k = .slice (.tok t) 1 (l.map encStr)→z=1∧act.tmps.getD k Go.undef = .slice (some ⟨b,0,none⟩) l.length cap∧l.length≤cap∧∀ j (hj:j<l.length),∃ u,M.G b j=some u∧RD M s (.str l[j]) u:=by
   intro k hk
   have hv:=hr k
   rw [hk]at hv
   generalize act.tmps.getD k Go.undef=v at hv
   generalize hZ:l.map encStr=rows at hv
   cases hv with
   | fX _ _ cap hc kQ=>
    have hl:l = []:=by cases l <;> simp at hZ;rfl
    subst hl
    rcases(kQ.2 _ ht).2 rfl with ⟨h0,_⟩ | ⟨b',h0,_⟩
    ·rw [h3]at h0;cases h0
    ·cases h0
   | slice _ _ _ b2 q ZO hl hs h1 h2 kQ=>
    subst hZ
    rw [List.length_map]at hl kQ
    rcases(kQ.2 _ ht).2 rfl with ⟨h0,_⟩ | ⟨b',hb,gy⟩
    ·rw [h3]at h0;cases h0
    ·cases hb
     rw [h3]at gy
     cases gy
     refine⟨rfl,by rw [List.length_map],hl,fun j hj=> ?_⟩
     have e1:(l.map encStr)[j]? = some [.str l[j]]:=by rw [List.getElem?_map,List.getElem?_eq_getElem hj];rfl
     obtain⟨u,hu⟩:=h1 j _ 0 _ e1 rfl
     refine⟨u,by simpa using hu,h2 j _ 0 _ u e1 rfl hu⟩
  obtain⟨rfl,_,n6,iG⟩:=each k0 NQ
  have cH:B.w.heap.size≤b:=by
   rcases e.lV t b cap 1 ⟨_,ht⟩ h3 with ⟨⟨n,hn⟩,_⟩ | h
   ·rw [hB]at hn;simp at hn
   ·exact h
  refine⟨b,cap,vs,T,fun k hk=>(each k hk).2.1,n6,h4,by simpa [zs]using h5,cH,fun j hj=> ?_⟩
  obtain⟨u,hu,k8⟩:=iG j hj
  have:=(r.comm _ _ _ hu).1
  rw [gM h4,k8.gS]at this
  exact this
theorem Au (hB:B.s = ⟨[],[]⟩) {tm:Tm} {s:St} {act oo:Act} {w w':World} (h:Holds B nt tm s act w) {b cap:Nat} {vs:Array Value} {T:TypeId} (dr:vs.size=cap) (pW:B.w.heap.size≤b)
 (iE : ∀ q,q<B.w.heap.size→w'.heap[q]? = w.heap[q]?) (cJ:w'.heap[b]? = some (.cells vs T (0,0))) (Bv:w.heap.size≤w'.heap.size) (xI:w'.os=w.os) (vG:w'.tape=w.tape) (Hi:w'.output=w.output)
 {l:List ax} (hl:l.length≤cap) (iG : ∀ j (hj:j<l.length),vs[j]? = some (.string ⟨⟨l[j]⟩⟩)) {k:Nat} (Ej:oo.tmps.getD k Go.undef = .slice (some ⟨b,0,none⟩) l.length cap) (hn:oo.tmps.size=nt) (hd:oo.defers = []) :
 Holds B nt [(k, .slice (.tok 0) 1 (l.map encStr))] ⟨[],[some l.length]⟩ oo w':=by
 obtain⟨M,e,r,hr,_,_⟩:=h
 let M':Map:=⟨fun q o=>if q=b then(if o<l.length then(l[o]?).map fun x=>Value.string ⟨⟨x⟩⟩else none)else B.M.G q o,B.M.loc,fun _=>some (b,cap,1)⟩
 have QY : ∀ q o v,B.M.G q o=some v→q<B.w.heap.size∧w'.cell? ⟨q,o,none⟩=some v∧v.oneCell'=true:=by
  intro q o v hq
  obtain⟨h1,h2⟩:=r.comm q o v (e.le.G q o v hq)
  have hD:=B.SY q o v hq
  refine⟨hD, ?_,h2⟩
  rw [← h1]
  simp [World.cell?,iE q hD]
 have pE : ∀ j (hj:j<l.length),w'.cell? ⟨b,j,none⟩=some (.string ⟨⟨l[j]⟩⟩):=fun j hj=>by rw [gM cJ];exact iG j hj
 have hF : ∀ (j:Nat) v,(if j<l.length then(l[j]?).map fun x=>Value.string ⟨⟨x⟩⟩else none)=some v→∃ hj:j<l.length,v = .string ⟨⟨l[j]⟩⟩:=by
  intro j v hv
  split at hv
  ·rename_i hj
   rw [List.getElem?_eq_getElem hj]at hv
   exact⟨hj,by simpa using hv.symm⟩
  ·cases hv
 refine⟨M',⟨⟨fun q o v hq=> ?_,by simp [hB],fun o ho=>rfl,by rw [hB];exact Nat.zero_le _,fun t n' ht _=>by rw [hB]at ht;exact absurd ht (Nat.not_lt_zero _)⟩,fun q hq _ _=> ?_,fun o _ h2=>absurd h2 (Nat.not_lt_zero _),fun t q c z _ hb=> ?_,fun q o dC=> ?_,Nat.le_trans e.size Bv,xI.trans e.os,vG.trans e.tape,Hi.trans e.output⟩,
  ⟨fun q o v hq=> ?_,fun o ds ho=>by simp at ho,fun o ho=>absurd ho (Nat.not_lt_zero _),fun o o' ho=>absurd ho (Nat.not_lt_zero _),fun t n ht=> ?_,fun t q c z o _ _ ho=>absurd ho (Nat.not_lt_zero _),fun t t' q c z c' z' Gd pH _ _=> ?_⟩,fun u=> ?_,hn,hd⟩
 ·show(if q=b then _ else B.M.G q o)=some v
  rw [if_neg (by have:=(QY q o v hq).1;omega)]
  exact hq
 ·rw [iE q hq]
  exact e.kept q hq (fun o ho=>by rw [hB]at ho;exact absurd ho (Nat.not_lt_zero _)) (fun t c z pH=>by rw [hB]at pH;obtain⟨n,sd⟩:=pH;simp at sd)
 ·cases hb;exact .inr pW
 ·by_cases hq:q=b
  ·subst hq;exact .inl pW
  ·exact absurd (show(if q=b then _ else B.M.G q o)=B.M.G q o from if_neg hq) dC
 ·have mM:(if q=b then(if o<l.length then(l[o]?).map fun x=>Value.string ⟨⟨x⟩⟩else none)else B.M.G q o)=some v:=hq
  by_cases N3:q=b
  ·rw [if_pos N3]at mM
   obtain⟨hj,rfl⟩:=hF o v mM
   rw [N3]
   exact⟨pE o hj,rfl⟩
  ·rw [if_neg N3]at mM
   exact(QY q o v mM).2
 ·match t with
  | 0=>
   simp at ht
   subst ht
   refine .inr ⟨b,cap,1,vs,T,rfl,cJ,by simp [zs,dr],hl,fun off ho=> ?_,fun h=>by cases h⟩
   show(if b=b then(if off<l.length then _ else none)else B.M.G b off)=none
   rw [if_pos rfl,if_neg (by simp [zs]at ho;omega)]
  | t+1=>simp at ht
 ·obtain⟨n1,h1⟩:=Gd
  obtain⟨n2,h2⟩:=pH
  have a1:=(List.getElem?_eq_some_iff.1 h1).1
  have a2:=(List.getElem?_eq_some_iff.1 h2).1
  simp at a1 a2
  omega
 ·simp only [Tm.get]
  split
  ·rename_i N4
   subst N4
   rw [Ej]
   have:=RD.slice (M:=M') (s:=⟨[],[some l.length]⟩) (.tok 0) 1 (l.map encStr) b 0 cap (by simpa using hl) (fun row hr=>by
    obtain⟨x,_,rfl⟩:=List.mem_map.1 hr;rfl) (fun i row j d e1 e2=> ?_) (fun i row j d u e1 e2 eu=> ?_) ⟨by simp,fun n sd=>by
    simp at sd
    subst sd
    exact⟨by simp,fun _=> .inr ⟨b,rfl,rfl⟩⟩⟩
   ·simpa using this
   ·rw [List.getElem?_map]at e1
    cases rY:l[i]? with
    | none=>rw [rY]at e1;cases e1
    | some x=>
     have l7:=(List.getElem?_eq_some_iff.1 rY).1
     rw [rY]at e1
     cases e1
     have hj:j=0:=by cases j with | zero=>rfl | succ j=>simp [encStr]at e2
     subst hj
     refine⟨.string ⟨⟨x⟩⟩, ?_⟩
     show(if b=b then(if 0+(i*1+0)<l.length then _ else none)else _)=_
     rw [if_pos rfl,if_pos (by omega)]
     simp [rY]
   ·rw [List.getElem?_map]at e1
    cases rY:l[i]? with
    | none=>rw [rY]at e1;cases e1
    | some x=>
     have l7:=(List.getElem?_eq_some_iff.1 rY).1
     rw [rY]at e1
     cases e1
     have hj:j=0:=by cases j with | zero=>rfl | succ j=>simp [encStr]at e2
     subst hj
     have BI:(if b=b then(if 0+(i*1+0)<l.length then(l[0+(i*1+0)]?).map fun x=>Value.string ⟨⟨x⟩⟩else none)else B.M.G b (0+(i*1+0)))=some u:=eu
     rw [if_pos rfl,if_pos (by omega)]at BI
     simp [rY]at BI
     subst BI
     simp [encStr]at e2
     subst e2
     exact .str x
  ·exact .junk _
theorem BV (hB:B.s = ⟨[],[]⟩) {tm:Tm} {s:St} {act oo:Act} {w:World} (h:Holds B nt tm s act w) {k:Nat} (Ej:oo.tmps.getD k Go.undef = .slice none 0 0∨∃ b q,oo.tmps.getD k Go.undef = .slice (some ⟨b,q,none⟩) 0 0) (hn:oo.tmps.size=nt) (hd:oo.defers = []) :
 Holds B nt [(k, .slice (.tok 0) 1 (([] : List ax).map encStr))] ⟨[],[some 0]⟩ oo w:=by
 obtain⟨M,e,r,hr,_,_⟩:=h
 let M':Map:=⟨B.M.G,B.M.loc,fun _=>none⟩
 refine⟨M',⟨⟨fun q o v hq=>hq,by simp [hB],fun o ho=>rfl,by rw [hB];exact Nat.zero_le _,fun t n' ht _=>by rw [hB]at ht;exact absurd ht (Nat.not_lt_zero _)⟩,fun q hq _ _=> ?_,fun o _ h2=>absurd h2 (Nat.not_lt_zero _),fun t q c z _ hb=>(by cases hb),fun q o dC=>absurd rfl dC,e.size,e.os,e.tape,e.output⟩,
  ⟨fun q o v hq=>r.comm q o v (e.le.G q o v hq),fun o ds ho=>by simp at ho,fun o ho=>absurd ho (Nat.not_lt_zero _),fun o o' ho=>absurd ho (Nat.not_lt_zero _),fun t n ht=> ?_,fun t q c z o _ _ ho=>absurd ho (Nat.not_lt_zero _),fun t t' q c z c' z' Gd pH h1 _=>by cases h1⟩,fun u=> ?_,hn,hd⟩
 ·exact e.kept q hq (fun o ho=>by rw [hB]at ho;exact absurd ho (Nat.not_lt_zero _)) (fun t c z pH=>by rw [hB]at pH;obtain⟨n,sd⟩:=pH;simp at sd)
 ·match t with
  | 0=>simp at ht;subst ht;exact .inl ⟨rfl,rfl⟩
  | t+1=>simp at ht
 ·simp only [Tm.get]
  split
  ·rename_i N4
   subst N4
   have kQ : ∀ base,fe M' ⟨[],[some 0]⟩ (.tok 0) 1 0 base 0:=fun base=>⟨by simp,fun n sd=>by
    simp at sd
    subst sd
    exact⟨Nat.le_refl _,fun _=> .inl ⟨rfl,rfl,fun h=>by cases h⟩⟩⟩
   rcases Ej with h | ⟨b,q,h⟩
   ·rw [h];exact .fX _ _ 0 rfl (kQ none)
   ·rw [h];exact .slice (.tok 0) 1 [] b q 0 (Nat.le_refl _) (by simp) (by simp) (by simp) (kQ _)
  ·exact .junk _
theorem Av {α:Type} [Inhabited α] (enc:α→Value) (d:Array α) (c:Array Value) (j:Nat):(Sort.putCells enc 0 d c)[j]? = if j<d.size then(c[j]?).map fun _=>enc d[j]! else c[j]? :=by
 simp only [Sort.putCells,Array.getElem?_mapIdx]
 cases h:c[j]? with
 | none=>simp
 | some x=>by_cases hj:j<d.size <;> simp [hj]
theorem x9 {w:World} {b n cap:Nat} {vs:Array Value} {T:TypeId} (cJ:w.heap[b]? = some (.cells vs T (0,0))) (dr:vs.size=cap) (l:List ax) (hl:l.length≤cap) (os:Array Obj) :
 (∀ q,q≠b→q<w.heap.size→(Sort.grow (Sort.putRow Go.Proofs.encStr (Sort.ahead w n) b 0 l.toArray) os).heap[q]? = w.heap[q]?)∧
 (Sort.grow (Sort.putRow Go.Proofs.encStr (Sort.ahead w n) b 0 l.toArray) os).heap[b]? = some (.cells (Sort.putCells Go.Proofs.encStr 0 l.toArray vs) T (0,0))∧w.heap.size≤(Sort.grow (Sort.putRow Go.Proofs.encStr (Sort.ahead w n) b 0 l.toArray) os).heap.size∧
 (Sort.putCells Go.Proofs.encStr 0 l.toArray vs).size=cap∧∀ j (hj:j<l.length),(Sort.putCells Go.Proofs.encStr 0 l.toArray vs)[j]? = some (.string ⟨⟨l[j]⟩⟩):=by
 have hb:b<w.heap.size:=(Array.getElem?_eq_some_iff.1 cJ).1
 refine⟨fun q hq hD=> ?_, ?_, ?_, ?_,fun j hj=> ?_⟩
 ·simp only [Sort.grow,Sort.putRow,Sort.mapBlock,Sort.ahead]
  rw [Array.getElem?_append_left (by simpa using hD),Array.getElem?_modify]
  simp [Ne.symm hq]
 ·simp only [Sort.grow,Sort.putRow,Sort.mapBlock,Sort.ahead]
  rw [Array.getElem?_append_left (by simpa using hb),Array.getElem?_modify]
  simp [cJ,Sort.onCells]
 ·simp [Sort.grow,Sort.putRow,Sort.mapBlock,Sort.ahead]
 ·simp [Sort.putCells,dr]
 ·rw [Av]
  have h1:j<l.toArray.size:=by simpa using hj
  have h2:vs[j]? = some vs[j]:=Array.getElem?_eq_getElem (by omega)
  rw [if_pos h1,h2]
  simp [hj]
def iN (l:List ax):List ax:=l.mergeSort fun x y=>decide (x≤y)
theorem Aw {act:Act} {b:Nat} {v:Value} {u:Nat} (h:u≠b):(act.put (some b) v).tmps.getD u Go.undef=act.tmps.getD u Go.undef:=by
 simp only [Act.put,Array.getD_eq_getD_getElem?]
 rw [Array.getElem?_setIfInBounds_ne (fun e=>h e.symm)]
theorem ya {act:Act} {b:Nat} {v:Value} (h:b<act.tmps.size):(act.put (some b) v).tmps.getD b Go.undef=v:=by
 simp only [Act.put,Array.getD_eq_getD_getElem?]
 simp [h]
theorem Sem.sort (hB:B.s = ⟨[],[]⟩) {a k b t:Nat} {l:List ax} {is:List AI} {Q:Exit→Tm→St→Prop} {tm:Tm} {s:St} (YJ:a≠k) (QZ:b≠k) (Ki:a≠b)
 (hk:tm.get k = .slice (.tok t) 1 (l.map encStr)) (ht:s.aq[t]? = some (some l.length)) (hl:l.length<4611686018427387904)
 (h:fk Try.prog is (Q .normal) [(k, .slice (.tok 0) 1 ((iN l).map encStr))] ⟨[],[some l.length]⟩) :
 Sem Try.prog B nt (.run (.op (some a) none (.mv (.s k)):: .call (some b) none fG [.s a]::is)) Q tm s:=by
 refine Sem.N2 fun act w hh=> ?_
 have rT:(tm.put (some a) (tm.get k)).get k = .slice (.tok t) 1 (l.map encStr):=by rw [Tm.gU,if_neg (by simpa using YJ)];exact hk
 have Ax:(tm.put (some a) (tm.get k)).get a = .slice (.tok t) 1 (l.map encStr):=by rw [Tm.gU,if_pos rfl];exact hk
 have wx:(iN l).length=l.length:=List.length_mergeSort l
 have hn:(act.put (some b) (.tuple #[])).tmps.size=nt:=by obtain⟨_,_,_,_,h1,_⟩:=hh;simpa [Act.put]using h1
 have hd:(act.put (some b) (.tuple #[])).defers = []:=by obtain⟨_,_,_,_,_,h1⟩:=hh;simpa [Act.put]using h1
 have dr:(act.tmps).size=nt:=by obtain⟨_,_,_,_,h1,_⟩:=hh;exact h1
 rcases x8 hB hh ht Ax with ⟨rfl,hv⟩ | ⟨b',cap,vs,T,hv,n6,cJ,nL,pW,iG⟩
 ·rw [show iN [] = [] by simp [iN]]at h
  have call : ∀ p,act.tmps.getD a Go.undef = .slice p 0 0→Calls Try.prog fG #[act.tmps.getD a Go.undef] w fun e w'=>∃ v,e = .returned v∧∃ bd s',Holds B nt bd s' (act.put (some b) v) w'∧fk Try.prog is (Q .normal) bd s':=by
   intro p hp
   rw [hp]
   refine(Try.slices_Sort_string_none p 0 w).mono ?_
   rintro e w' ⟨rfl,rfl⟩
   refine⟨_,rfl,_,_,BV hB hh (k:=k) ?_ hn hd,h⟩
   rw [Aw (Ne.symm QZ)]
   exact hv k rT
  rcases hv a Ax with h1 | ⟨b',q,h1⟩
  ·exact call _ h1
  ·exact call _ h1
 ·rw [hv a Ax]
  have hD:b'<w.heap.size:=(Array.getElem?_eq_some_iff.1 cJ).1
  refine(Try.slices_Sort_string b' 0 cap l w (fun j hj=> ?_) hD hl).mono ?_
  ·have GC:j<l.length:=by simpa using hj
   refine⟨?_,by simp [World.frozen?,cJ]⟩
   rw [Nat.zero_add,gM cJ,iG j GC]
   simp [GC]
  ·rintro e w' ⟨rfl,n,os,rfl⟩
   obtain⟨p1,p2,p3,p4,p5⟩:=x9 (n:=n) cJ nL (iN l) (by omega) os
   have hH:=Au hB hh (oo:=act.put (some b) (.tuple #[])) (l:=iN l) (k:=k) p4 pW (fun q hq=>p1 q (by omega) (by obtain⟨M,e,_⟩:=hh;exact Nat.lt_of_lt_of_le hq e.size)) p2 p3 rfl rfl rfl (by omega) p5 (by rw [Aw (Ne.symm QZ),hv k rT,wx]) hn hd
   rw [wx]at hH
   exact⟨_,rfl,_,_,hH,h⟩
theorem Bm (l:List ax):(Lib.compact l).length≤l.length:=by
 unfold Lib.compact Lib.compactUpTo
 rw [List.length_map]
 exact Nat.le_trans (List.length_filter_le _ _) (by simp)
theorem Sem.compact (hB:B.s = ⟨[],[]⟩) {a k b t:Nat} {l:List ax} {is:List AI} {Q:Exit→Tm→St→Prop} {tm:Tm} {s:St} (hbt:b<nt)
 (hk:tm.get k = .slice (.tok t) 1 (l.map encStr)) (ht:s.aq[t]? = some (some l.length)) (hl:l.length<4611686018427387904)
 (h:fk Try.prog is (Q .normal) [(b, .slice (.tok 0) 1 ((Lib.compact l).map encStr))] ⟨[],[some (Lib.compact l).length]⟩) :
 Sem Try.prog B nt (.run (.op (some a) none (.mv (.s k)):: .call (some b) none fS [.s a]::is)) Q tm s:=by
 refine Sem.N2 fun act w hh=> ?_
 have Ax:(tm.put (some a) (tm.get k)).get a = .slice (.tok t) 1 (l.map encStr):=by rw [Tm.gU,if_pos rfl];exact hk
 have dr:(act.tmps).size=nt:=by obtain⟨_,_,_,_,h1,_⟩:=hh;exact h1
 have hn : ∀ v,(act.put (some b) v).tmps.size=nt:=fun v=>by simpa [Act.put]using dr
 have hd : ∀ v,(act.put (some b) v).defers = []:=by obtain⟨_,_,_,_,_,h1⟩:=hh;intro v;simpa [Act.put]using h1
 rcases x8 hB hh ht Ax with ⟨rfl,hv⟩ | ⟨b',cap,vs,T,hv,n6,cJ,nL,pW,iG⟩
 ·rw [show Lib.compact ([] : List ax) = []from rfl]at h
  have call : ∀ p,act.tmps.getD a Go.undef = .slice p 0 0→(p=none∨∃ b q,p=some ⟨b,q,none⟩)→Calls Try.prog fS #[act.tmps.getD a Go.undef] w fun e w'=>∃ v,e = .returned v∧∃ bd s',Holds B nt bd s' (act.put (some b) v) w'∧fk Try.prog is (Q .normal) bd s':=by
   intro p hp hq
   rw [hp]
   refine(Try.slices_Compact_string_empty p 0 w).mono ?_
   rintro e w' ⟨rfl,rfl⟩
   refine⟨_,rfl,_,_,BV hB hh (k:=b) ?_ (hn _) (hd _),h⟩
   rw [ya (by omega)]
   rcases hq with rfl | ⟨x,y,rfl⟩
   ·exact .inl rfl
   ·exact .inr ⟨x,y,rfl⟩
  rcases hv a Ax with h1 | ⟨b',q,h1⟩
  ·exact call _ h1 (.inl rfl)
  ·exact call _ h1 (.inr ⟨b',q,rfl⟩)
 ·rw [hv a Ax]
  have vM:(Lib.compact l).length≤l.length:=Bm l
  refine(Try.slices_Compact_string b' 0 cap l w (fun j hj=> ?_) (by omega) n6).mono ?_
  ·have GC:j<l.length:=by simpa using hj
   refine⟨?_,by simp [World.frozen?,cJ]⟩
   rw [Nat.zero_add,gM cJ,iG j GC]
   simp [GC]
  ·rintro e w' ⟨rfl,q,rfl⟩
   obtain⟨p1,p2,p3,p4,p5⟩:=x9 (n:=q) cJ nL (Lib.compact l++List.replicate (l.length - (Lib.compact l).length) []) (by simp;omega) #[]
   rw [Sort.grow_empty]at p1 p2 p3
   have hH:=Au hB hh (oo:=act.put (some b) (.slice (some ⟨b',0,none⟩) (Lib.compact l).length cap)) (l:=Lib.compact l) (k:=b) p4 pW (fun q hq=>p1 q (by omega) (by obtain⟨M,e,_⟩:=hh;exact Nat.lt_of_lt_of_le hq e.size)) p2 p3 rfl rfl rfl (by omega)
    (fun j hj=>by
     have:=p5 j (by simp;omega)
     rw [List.getElem_append_left hj]at this
     exact this) (ya (by omega)) (hn _) (hd _)
   exact⟨_,rfl,_,_,hH,h⟩
end
end Go.Abs

/-! SrtP -/

namespace Go.Abs
theorem wy {a b:UInt8} : a<b↔a.toNat<b.toNat:=UInt8.lt_iff_toNat_lt
theorem q6 : ∀ a:ax,bytesLess a a=false
 | []=>rfl
 | x::a=>by
  show Go.Op.bytesLess (x::a) (x::a)=false
  have h:=q6 a
  have h:Go.Op.bytesLess a a=false:=h
  simp [Go.Op.bytesLess,h]
theorem q7 : ∀ a b:ax,bytesLess a b=true∨a=b∨bytesLess b a=true
 | [],[]=> .inr (.inl rfl)
 | [],y::b=> .inl rfl
 | x::a,[]=> .inr (.inr rfl)
 | x::a,y::b=>by
  show Go.Op.bytesLess (x::a) (y::b)=true∨_∨Go.Op.bytesLess (y::b) (x::a)=true
  have h:Go.Op.bytesLess a b=true∨a=b∨Go.Op.bytesLess b a=true:=q7 a b
  simp only [Go.Op.bytesLess,Bool.or_eq_true,Bool.and_eq_true,decide_eq_true_eq,beq_iff_eq,List.cons.injEq]
  by_cases e:x=y
  ·subst e
   rcases h with h | h | h
   ·exact .inl (.inr ⟨rfl,h⟩)
   ·exact .inr (.inl ⟨rfl,h⟩)
   ·exact .inr (.inr (.inr ⟨rfl,h⟩))
  ·have:x.toNat≠y.toNat:=fun h=>e (UInt8.toNat_inj.1 h)
   rcases Nat.lt_or_gt_of_ne this with h | h
   ·exact .inl (.inl (wy.2 h))
   ·exact .inr (.inr (.inl (wy.2 h)))
theorem wz : ∀ a b c:ax,bytesLess a b=true→bytesLess b c=true→bytesLess a c=true
 | a,b,[],h1,h2=>by cases b <;> cases h2
 | a,[],z::c,h1,h2=>by cases a <;> cases h1
 | [],y::b,z::c,h1,h2=>rfl
 | x::a,y::b,z::c,h1,h2=>by
  have h1:Go.Op.bytesLess (x::a) (y::b)=true:=h1
  have h2:Go.Op.bytesLess (y::b) (z::c)=true:=h2
  show Go.Op.bytesLess (x::a) (z::c)=true
  simp only [Go.Op.bytesLess,Bool.or_eq_true,Bool.and_eq_true,decide_eq_true_eq,beq_iff_eq]at h1 h2 ⊢
  rcases h1 with e1 | ⟨i1,e1⟩
  ·rcases h2 with e2 | ⟨i2,e2⟩
   ·exact .inl (wy.2 (Nat.lt_trans (wy.1 e1) (wy.1 e2)))
   ·exact .inl (i2 ▸ e1)
  ·rcases h2 with e2 | ⟨i2,e2⟩
   ·exact .inl (i1 ▸ e2)
   ·exact .inr ⟨i1.trans i2,wz a b c e1 e2⟩
def tt (l:List ax):Prop:=l.Pairwise fun a b=>bytesLess a b=true
theorem qD : ∀ {a b:List ax},tt a→tt b→(∀ x,x∈a↔x∈b)→a=b
 | [],[],_,_,_=>rfl
 | [],y::b,_,_,h=>absurd ((h y).2 List.mem_cons_self) (by simp)
 | x::a,[],_,_,h=>absurd ((h x).1 List.mem_cons_self) (by simp)
 | x::a,y::b,h1,h2,h=>by
  obtain⟨g1,g2⟩:=List.pairwise_cons.1 h1
  obtain⟨g3,g4⟩:=List.pairwise_cons.1 h2
  have e:x=y:=by
   rcases List.mem_cons.1 ((h x).1 List.mem_cons_self)with e | m
   ·exact e
   ·rcases List.mem_cons.1 ((h y).2 List.mem_cons_self)with e | m'
    ·exact e.symm
    ·have:=wz _ _ _ (g3 x m) (g1 y m');rw [q6]at this;cases this
  subst e
  rw [qD g2 g4 fun z=> ?_]
  constructor
  ·intro m
   rcases List.mem_cons.1 ((h z).1 (List.mem_cons_of_mem _ m))with e | m'
   ·subst e;have:=g1 z m;rw [q6]at this;cases this
   ·exact m'
  ·intro m
   rcases List.mem_cons.1 ((h z).2 (List.mem_cons_of_mem _ m))with e | m'
   ·subst e;have:=g3 z m;rw [q6]at this;cases this
   ·exact m'
theorem oJ (out:List ax) : ∀ (l:List ax) (c:ax) (a:Bool),
 let q:=jw out l c a
 (q.2=false↔a=false∧∀ x∈l,x∈out)∧(q.2=true→((a=true∧q.1=c)∨(q.1∈l∧q.1∉out))∧(a=true→bytesLess c q.1=false)∧∀ x∈l,x∉out→bytesLess x q.1=false)
 | [],c,a=>by
  simp only [jw]
  refine⟨by simp,fun h=>⟨.inl ⟨h,by trivial⟩,fun _=>q6 c,fun x m=>(by cases m)⟩⟩
 | s::l,c,a=>by
  simp only [jw]
  by_cases h1:c7 out s=true
  ·have m:=(eH _ _).1 h1
   simp only [h1,Bool.not_true,Bool.false_and,Bool.false_eq_true,if_false]
   obtain⟨k1,k2⟩:=oJ out l c a
   refine⟨k1.trans ⟨fun h=>⟨h.1,fun x hx=> ?_⟩,fun h=>⟨h.1,fun x hx=>h.2 x (List.mem_cons_of_mem _ hx)⟩⟩,fun h=> ?_⟩
   ·rcases List.mem_cons.1 hx with rfl | hx
    ·exact m
    ·exact h.2 x hx
   ·obtain⟨g1,g2,g3⟩:=k2 h
    refine⟨g1.imp_right fun h=>⟨List.mem_cons_of_mem _ h.1,h.2⟩,g2,fun x hx hn=> ?_⟩
    rcases List.mem_cons.1 hx with rfl | hx
    ·exact absurd m hn
    ·exact g3 x hx hn
  ·have m:s∉out:=fun m=>h1 ((eH _ _).2 m)
   have mO:c7 out s=false:=by simpa using h1
   by_cases h2:(!a || bytesLess s c)=true
   ·simp only [mO,h2,Bool.not_false,Bool.and_self,if_true]
    obtain⟨k1,k2⟩:=oJ out l s true
    refine⟨⟨fun h=>absurd (k1.1 h).1 (by simp),fun h=>absurd (h.2 s List.mem_cons_self) m⟩,fun h=> ?_⟩
    obtain⟨g1,g2,g3⟩:=k2 h
    have g4:=g2 rfl
    refine⟨.inr ?_,fun ha=> ?_,fun x hx hn=> ?_⟩
    ·rcases g1 with ⟨_,e⟩ | g1
     ·rw [e];exact⟨List.mem_cons_self,m⟩
     ·exact⟨List.mem_cons_of_mem _ g1.1,g1.2⟩
    ·have h3:bytesLess s c=true:=by simpa [ha]using h2
     cases hh:bytesLess c (jw out l s true).1
     ·rfl
     ·have:=wz _ _ _ h3 hh;rw [g4]at this;cases this
    ·rcases List.mem_cons.1 hx with rfl | hx
     ·exact g4
     ·exact g3 x hx hn
   ·have qR:(!a || bytesLess s c)=false:=by simpa using h2
    have ha:a=true:=by cases a <;> simp_all
    have h3:bytesLess s c=false:=by cases a <;> simp_all
    simp only [mO,qR,Bool.not_false,Bool.and_false,Bool.false_eq_true,if_false]
    obtain⟨k1,k2⟩:=oJ out l c a
    refine⟨⟨fun h=>absurd (k1.1 h).1 (by simp [ha]),fun h=>absurd h.1 (by simp [ha])⟩,fun h=> ?_⟩
    obtain⟨g1,g2,g3⟩:=k2 h
    refine⟨g1.imp_right fun h=>⟨List.mem_cons_of_mem _ h.1,h.2⟩,g2,fun x hx hn=> ?_⟩
    rcases List.mem_cons.1 hx with rfl | hx
    ·cases hh:bytesLess x (jw out l c a).1
     ·rfl
     ·have g4:=g2 ha
      rcases q7 x c with e | e | e
      ·rw [h3]at e;cases e
      ·subst e;rw [g4]at hh;cases hh
      ·have:=wz _ _ _ e hh;rw [g4]at this;cases this
    ·exact g3 x hx hn
theorem qE (l:List ax) : ∀ (n:Nat) (out:List ax),tt out→(∀ x∈out,x∈l)→(∀ x∈out,∀ y∈l,y∉out→bytesLess x y=true)→
 tt (kM l n out)∧(∀ x∈kM l n out,x∈l)∧(∀ x∈out,x∈kM l n out)∧((∀ x∈l,x∈kM l n out)∨(kM l n out).length=out.length+n)
 | 0,out,h1,h2,h3=>⟨h1,h2,fun x m=>m, .inr rfl⟩
 | n+1,out,h1,h2,h3=>by
  simp only [kM,Gy]
  obtain⟨k1,k2⟩:=oJ out l [] false
  cases hq:(jw out l [] false).2
  ·simp only [Bool.false_eq_true,if_false]
   obtain⟨g1,g2,g3,g4⟩:=qE l n out h1 h2 h3
   exact⟨g1,g2,g3, .inl fun x m=>g3 x ((k1.1 hq).2 x m)⟩
  ·simp only [if_true]
   obtain⟨g1,_,g3⟩:=k2 hq
   have g1:(jw out l [] false).1∈l∧(jw out l [] false).1∉out:=by
    rcases g1 with ⟨h,_⟩ | g1
    ·cases h
    ·exact g1
   generalize (jw out l [] false).1=c at g1 g3
   obtain⟨r1,r2,r3,r4⟩:=qE l n (out++ [c])
    (by
     refine List.pairwise_append.2 ⟨h1,by simp,fun x hx y hy=> ?_⟩
     have:y=c:=by simpa using hy
     subst this
     exact h3 x hx y g1.1 g1.2)
    (fun x hx=>by
     rcases List.mem_append.1 hx with hx | hx
     ·exact h2 x hx
     ·have:x=c:=by simpa using hx
      subst this;exact g1.1)
    (fun x hx y hy hn=>by
     have Q1:y∉out:=fun m=>hn (List.mem_append_left _ m)
     have YK:y≠c:=fun e=>hn (List.mem_append_right _ (by simp [e]))
     rcases List.mem_append.1 hx with hx | hx
     ·exact h3 x hx y hy Q1
     ·have:x=c:=by simpa using hx
      subst this
      rcases q7 x y with h | h | h
      ·exact h
      ·exact absurd h.symm YK
      ·rw [g3 y hy Q1]at h;cases h)
   refine⟨r1,r2,fun x m=>r3 x (List.mem_append_left _ m),r4.imp_right fun h=> ?_⟩
   rw [h];simp;omega
theorem qb : ∀ (a l:List ax),a.Nodup→(∀ x∈a,x∈l)→a.length≤l.length
 | [],l,_,_=>Nat.zero_le _
 | x::a,l,h,hm=>by
  obtain⟨h1,h2⟩:=List.nodup_cons.1 h
  have m:=hm x List.mem_cons_self
  have:=qb a (l.erase x) h2 fun y hy=>(List.mem_erase_of_ne (fun e=>h1 (by rw [← e];exact hy))).2 (hm y (List.mem_cons_of_mem _ hy))
  rw [List.length_erase_of_mem m]at this
  have:0<l.length:=List.length_pos_of_mem m
  simp only [List.length_cons];omega
theorem mA {l:List ax} (h:tt l):l.Nodup:=h.imp fun {a b} h e=>by subst e;rw [q6]at h;cases h
theorem fz (l:List ax):tt (gi l)∧∀ x,x∈gi l↔x∈l:=by
 obtain⟨h1,h2,h3,h4⟩:=qE l l.length [] List.Pairwise.nil (fun x m=>(by cases m)) (fun x m=>(by cases m))
 refine⟨h1,fun x=>⟨h2 x,fun m=> ?_⟩⟩
 rcases h4 with h4 | h4
 ·exact h4 x m
 ·refine Classical.byContradiction fun hn=> ?_
  have:=qb (x::kM l l.length []) l (List.nodup_cons.2 ⟨hn,mA h1⟩) fun y hy=>by
   rcases List.mem_cons.1 hy with rfl | hy
   ·exact m
   ·exact h2 y hy
  simp only [List.length_cons,h4,List.length_nil]at this
  omega
theorem Bo (zs:List ax) (hs:zs.Pairwise fun a b=>bytesLess b a=false) : ∀ m,m≤zs.length→
 tt (Lib.compactUpTo zs.toArray m)∧(∀ x,x∈Lib.compactUpTo zs.toArray m↔x∈zs.take m):=by
 intro m
 induction m with
 | zero=>intro _;exact⟨by simp [Lib.compactUpTo,tt],fun x=>by simp [Lib.compactUpTo]⟩
 | succ m ih=>
  intro hm
  obtain⟨h1,h2⟩:=ih (by omega)
  have hz:zs[m]? = some zs[m]:=List.getElem?_eq_getElem (by omega)
  have e1:zs.toArray[m]! = zs[m]:=by simp [hm,Nat.lt_of_succ_le hm]
  have et:zs.take (m+1)=zs.take m++ [zs[m]]:=by rw [List.take_add_one,hz];rfl
  rw [Lib.compactUpTo_succ,e1,et]
  by_cases hk:Lib.keeps zs.toArray m=true
  ·rw [if_pos hk]
   refine⟨List.pairwise_append.2 ⟨h1,by simp,fun x hx y hy=> ?_⟩,fun x=>by rw [List.mem_append,List.mem_append,h2]⟩
   have hy:y=zs[m]:=by simpa using hy
   subst hy
   have hx:=(h2 x).1 hx
   simp only [Lib.keeps,decide_eq_true_eq]at hk
   rcases hk with rfl | hk
   ·simp at hx
   ·have Al:m - 1<zs.length:=by omega
    have e2:zs.toArray[m - 1]! = zs[m - 1]:=by simp [Al]
    rw [e1,e2]at hk
    have h0:0<m:=by
     cases m with
     | zero=>simp at hx
     | succ m=>omega
    have hle : ∀ i j (hi:i<zs.length) (hj:j<zs.length),i<j→bytesLess zs[j] zs[i] = false:=fun i j hi hj JA=>List.pairwise_iff_getElem.1 hs i j hi hj JA
    have g1:bytesLess zs[m] zs[m - 1] = false:=hle (m - 1) m Al (by omega) (by omega)
    have g2:bytesLess zs[m - 1] zs[m] = true:=by
     rcases q7 zs[m - 1] zs[m]with h | h | h
     ·exact h
     ·exact absurd h.symm hk
     ·rw [g1]at h;cases h
    obtain⟨i,hi,rfl⟩:=List.mem_iff_getElem.1 hx
    rw [List.length_take]at hi
    rw [List.getElem_take]
    by_cases sQ:i=m - 1
    ·subst sQ;exact g2
    ·have g3:=hle i (m - 1) (by omega) Al (by omega)
     rcases q7 zs[i] zs[m - 1]with h | h | h
     ·exact wz _ _ _ h g2
     ·rw [h];exact g2
     ·rw [g3]at h;cases h
  ·rw [if_neg hk]
   simp only [List.append_nil]
   refine⟨h1,fun x=> ?_⟩
   rw [h2]
   simp only [Lib.keeps,decide_eq_true_eq,not_or,ne_eq,Decidable.not_not]at hk
   obtain⟨k1,k2⟩:=hk
   have Al:m - 1<zs.length:=by omega
   have e2:zs.toArray[m - 1]! = zs[m - 1]:=by simp [Al]
   rw [e1,e2]at k2
   simp only [List.mem_append,List.mem_singleton]
   constructor
   ·exact .inl
   ·rintro(h | rfl)
    ·exact h
    ·rw [k2]
     exact List.mem_iff_getElem.2 ⟨m - 1,by rw [List.length_take];omega,by rw [List.getElem_take]⟩
theorem yc (l:List ax):(iN l).Pairwise fun a b=>bytesLess b a=false:=by
 have h:=List.pairwise_mergeSort (le:=fun x y:ax=>decide (x≤y)) (fun a b c h1 h2=> ?_) (fun a b=> ?_) l
 ·refine h.imp fun {a b} h=> ?_
  rw [decide_eq_true_eq]at h
  show Go.Op.bytesLess b a=false
  rw [Go.Proofs.bytesLess_eq]
  simpa using h
 ·rw [decide_eq_true_eq]at h1 h2 ⊢
  exact List.le_trans h1 h2
 ·have:=List.le_total a b
  simpa using this
theorem tu (l:List ax):Lib.compact (iN l)=gi l:=by
 obtain⟨h1,h2⟩:=Bo (iN l) (yc l) (iN l).length (Nat.le_refl _)
 obtain⟨h3,h4⟩:=fz l
 refine qD h1 h3 fun x=> ?_
 rw [h4]
 refine(h2 x).trans ?_
 rw [List.take_length]
 exact(List.mergeSort_perm _ _).mem_iff
end Go.Abs

/-! Tc1 -/

namespace Go.Abs
set_option maxRecDepth 8000
open Go.Proofs
def iB:List Sm→List ax
 | []=> []
 | v::l=>if v.kind==4 then v.proc::iB l else iB l
theorem uD : ∀ l:List Sm,(iB l).length≤l.length
 | []=>Nat.le_refl _
 | v::l=>by
  simp only [iB]
  have:=uD l
  split <;> simp <;> omega
def Pc.calls (f:Pc):List ax:=gi (iB (Sm.gd f.body))
theorem tv {name:ax} : ∀ {l:List Pc} {k:Nat} {f:Pc},kn name l=some f→∃ j,l[j]? = some f∧iX (fun f:Pc=>f.name==name) (k:Int) l=((k+j:Nat):Int)
 | g::l,k,f,h=>by
  simp only [kn]at h
  cases e:(g.name==name)
  ·rw [e]at h
   simp only [Bool.false_eq_true,if_false]at h
   obtain⟨j,h1,h2⟩:=tv (k:=k+1) h
   refine⟨j+1,by simpa using h1, ?_⟩
   simp only [iX,e,Bool.false_eq_true,if_false]
   rw [show((k:Int)+1)=((k+1:Nat):Int)from rfl,h2]
   congr 1;omega
  ·rw [e]at h
   simp only [if_true,Option.some.injEq]at h
   exact⟨0,by simpa using h,by simp [iX,e]⟩
theorem BW {p:Pg} (h:p.my) {name:ax} {f:Pc} (hf:p.find name=some f) (s:St):aH Try.prog lu [.cD (ie p) 0, .str name] s (.slice .shared 1 (f.calls.map encStr)) s:=by
 refine aH.pure ?_ (by simp [D.bG,D.ok,xg]) (by simp only [D.ok,Tag.ok,er];rfl) s
 obtain⟨rS,q4,wi⟩:=h.procs
 obtain⟨j,hj,rV⟩:=tv (k:=0) hf
 have rV:p.at name=((j:Nat):Int):=by unfold Pg.at;simpa using rV
 have x5:=fun s=>Gb (p:=p) (by omega) name s
 rw [rV]at x5
 obtain⟨it,q5,Gv⟩:=IP hj (by omega)
 have NY:it.length≤900000:=by
  have e:=congrArg List.length q5
  obtain⟨a,b,e',_,_,e3,e4⟩:=(pY p).2 j f hj
  have e5:=pZ p
  have e6:=congrArg List.length e3
  rw [e4]at e5
  simp only [List.length_map,List.length_append]at e e5 e6
  omega
 unfold S0
 obtain⟨fn,sf,Aq⟩:=vZ
 refine aH.intro ⟨fn,sf,Aq⟩ (Nat.le_of_ble_eq_true rfl) fun B hB=> ?_
 generalize hQ:mX (⟨[],[]⟩:St).al.length (⟨[],[]⟩:St).aq.length _ _ (⟨[],[]⟩:St)=Q
 have⟨hD,hF,hJ,hP⟩:=cf
 refine Sem.n8 ?_
 repeat' (first
 | simp only [go_sem,hD,hF,hJ,hP]
 | (with_reducible refine aL hQ ?_;simp only [aE,aF,Option.some.injEq,exists_eq_left',go_sem,hD,hF,hJ,hP];repeat' (first | exact Ok.out | with_reducible refine aV ?_ ?_ | (simp;done))))
 refine Sem.n8 ?_
 repeat' (first
 | simp only [go_sem,hD,hF,hJ,hP]
 | (with_reducible refine aL hQ ?_;simp only [aE,aF,Option.some.injEq,exists_eq_left',go_sem,hD,hF,hJ,hP];repeat' (first | exact Ok.out | with_reducible refine aV ?_ ?_ | (simp;done))))
 refine Sem.n8 ?_
 repeat' (first
 | simp only [go_sem,hD,hF,hJ,hP]
 | (with_reducible refine CU (x5 _) ?_)
 | (with_reducible refine CU (Gv _) ?_)
 | (with_reducible refine aL hQ ?_;simp only [aE,aF,Option.some.injEq,exists_eq_left',go_sem,hD,hF,hJ,hP];repeat' (first | exact Ok.out | with_reducible refine aV ?_ ?_ | (simp;done))))
 refine bx.uU 5 1 rfl ?_
 simp only [go_sem,hD,hF,hJ,hP]
 obtain⟨R,hR⟩ : ∃ R,R=iB (Sm.gd f.body):=⟨_,rfl⟩
 have Q2:R.length≤900000:=by rw [hR, ← q5];have:=uD (it.map Im.s);rw [List.length_map]at this;omega
 refine dM 0 1 (bx.ind (ι:=List Im×Nat×List ax×Nat) (fun i=>it.drop i.2.1=i.1∧i.2.2.1++iB (i.1.map Im.s)=R∧i.2.2.2=i.2.2.1.length) (fun i=>i.1.length)
  (fun i=> [(5, .slice (.tok 0) 1 (i.2.2.1.map encStr)),(12, .slice .shared 17 (it.map dX)),(13, .int .i64 (it.length:Int)),(14, .int .i64 (i.2.1:Int))]) (fun i=>⟨[],[some i.2.2.2]⟩) ?_ (it,0,[],0) ⟨rfl,by rw [hR,q5];rfl,rfl⟩)
 rintro⟨rest,k,out,n⟩ ⟨h1,h2,h3⟩ IH
 dsimp only at h1 h2 h3
 subst h3
 have k9:out.length≤900000:=by have:=congrArg List.length h2;rw [List.length_append]at this;omega
 cases rest with
 | cons a rest=>
  obtain⟨hF,g2,hD,g4⟩:=drop_cons h1
  have bY:k<4611686018427387904:=by omega
  have hJ:(out.length+1)*17≤bO:=by unfold bO;omega
  simp only [List.map_cons,iB]at h2
  rcases Bool.eq_false_or_eq_true (a.s.kind==4)with c1 | c1
  ·simp only [c1,if_true]at h2
   repeat' (first
 | simp only [go_sem,hD,hF,hJ,hP,c1]
 | (with_reducible refine aL hQ ?_;simp only [aE,aF,Option.some.injEq,exists_eq_left',go_sem,hD,hF,hJ,hP];repeat' (first | exact Ok.out | with_reducible refine aV ?_ ?_ | (simp;done))))
   refine ep 0 1 ?_ ?_ (IH (rest,k+1,out++ [a.s.proc],out.length+1) ⟨g2,by rw [← h2];simp,by simp⟩ (Nat.lt_succ_self _))
   ·(simp only [go_sem,hD,hF,hJ,hP,aQ bY,List.map_append,List.map_cons,List.map_nil,encStr];try exact bQ)
   ·(simp only [go_sem,hD,hF,hJ,hP,aQ bY,List.map_append,List.map_cons,List.map_nil,encStr];try exact bQ)
  ·simp only [c1,Bool.false_eq_true,if_false]at h2
   repeat' (first
 | simp only [go_sem,hD,hF,hJ,hP,c1]
 | (with_reducible refine aL hQ ?_;simp only [aE,aF,Option.some.injEq,exists_eq_left',go_sem,hD,hF,hJ,hP];repeat' (first | exact Ok.out | with_reducible refine aV ?_ ?_ | (simp;done))))
   refine ep 0 1 ?_ ?_ (IH (rest,k+1,out,_) ⟨g2,h2,rfl⟩ (Nat.lt_succ_self _))
   ·(simp only [go_sem,hD,hF,hJ,hP,aQ bY];try exact bQ)
   ·(simp only [go_sem,hD,hF,hJ,hP,aQ bY];try exact bQ)
 | nil=>
  have hD:=drop_nil h1
  simp only [List.map_nil,iB,List.append_nil]at h2
  subst h2
  have wx:(iN out).length=out.length:=List.length_mergeSort out
  repeat' (first
 | simp only [go_sem,hD,hF,hJ,hP]
 | (with_reducible refine aL hQ ?_;simp only [aE,aF,Option.some.injEq,exists_eq_left',go_sem,hD,hF,hJ,hP];repeat' (first | exact Ok.out | with_reducible refine aV ?_ ?_ | (simp;done))))
  refine Sem.seq (Sem.sort (k:=5) (t:=0) (l:=out) hB (by decide) (by decide) (by decide) rfl rfl (by omega) ?_)
  show Sem _ _ _ _ _ _ _
  refine Sem.seq (Sem.compact (k:=5) (t:=0) (l:=iN out) hB (by decide) rfl (by rw [wx];rfl) (by rw [wx];omega) ?_)
  rw [tu]
  have Sg:f.calls=gi out:=by unfold Pc.calls;rw [hR]
  rw [Sg]at hQ
  refine gk (ac:= .ret) (Q:=Q) (tm:= [(32, .slice (.tok 0) 1 ((gi out).map encStr)),(4, .slice (.tok 0) 1 ((gi out).map encStr))]) (s:=⟨[],[some (gi out).length]⟩) ?_
  repeat' (first
 | simp only [go_sem,hD,hF,hJ,hP]
 | (with_reducible refine aL hQ ?_;simp only [aE,aF,Option.some.injEq,exists_eq_left',go_sem,hD,hF,hJ,hP];repeat' (first | exact Ok.out | with_reducible refine aV ?_ ?_ | (simp;done))))
end Go.Abs

/-! Tc2 -/

namespace Go.Abs
open Go.Proofs
theorem tw {name:ax} : ∀ {l:List Pc},name∈l.map (·.name)→∃ f,kn name l=some f
 | f::l,h=>by
  simp only [kn]
  cases e:(f.name==name)
  ·simp only [Bool.false_eq_true,if_false]
   refine tw ?_
   rcases List.mem_cons.1 h with h | h
   ·rw [h]at e;simp at e
   ·exact h
  ·exact⟨f,rfl⟩
theorem yd {p:Pg} {f:Pc} {procs:List ax} : ∀ {l:List Sm},tq p f procs l=none→∀ v∈l,v.known p f procs=true
 | v::l,h,w,m=>by
  simp only [tq]at h
  split at h
  ·rename_i e
   rcases List.mem_cons.1 m with rfl | m
   ·exact e
   ·exact yd h w m
  ·cases h
theorem ye {p:Pg} {procs:List ax} : ∀ {l:List Pc},((pg p procs l).1==0)=true→∀ f∈l,ey (p.globals++f.own)=false∧∀ v∈Sm.gd f.body,v.known p f procs=true
 | g::l,h,f,m=>by
  simp only [pg]at h
  split at h
  ·cases h
  ·rename_i e
   split at h
   ·cases h
   ·rename_i e2
    rcases List.mem_cons.1 m with rfl | m
    ·exact⟨by simpa using e,yd e2⟩
    ·exact ye h f m
theorem Ay {p:Pg} (h:(p.scope.1==0)=true):ey p.globals=false∧ey p.pn=false∧p.ph=false∧∀ f∈p.procs,ey (p.globals++f.own)=false∧∀ v∈Sm.gd f.body,v.known p f p.pn=true:=by
 unfold Pg.scope at h
 split at h
 ·split at h
  ·cases h
  ·rename_i e
   simp only [Bool.or_eq_true,not_or,Bool.not_eq_true]at e
   exact⟨e.1,e.2.1,e.2.2,ye h⟩
 ·cases h
theorem qF {x:ax} : ∀ {l:List Sm},x∈iB l↔∃ v∈l,v.kind=4∧v.proc=x
 | []=>by simp [iB]
 | v::l=>by
  simp only [iB]
  cases e:(v.kind==4)
  ·have:v.kind≠4:=by simpa using e
   simp [this,qF (l:=l)]
  ·have:v.kind=4:=by simpa using e
   simp only [if_true,List.mem_cons,qF (l:=l),exists_eq_or_imp,this,true_and]
   constructor
   ·rintro(h | h)
    ·exact .inl h.symm
    ·exact .inr h
   ·rintro(h | h)
    ·exact .inl h.symm
    ·exact .inr h
theorem GD {f:Pc} {x:ax} : x∈f.calls↔∃ v∈Sm.gd f.body,v.kind=4∧v.proc=x:=by
 unfold Pc.calls;rw [(fz _).2,qF]
theorem nE {p:Pg} (h:(p.scope.1==0)=true) {f:Pc} (hf:f∈p.procs) {x:ax} (m:x∈f.calls) : ∃ g,p.find x=some g:=by
 obtain⟨v,hv,h4,rfl⟩:=GD.1 m
 have hk:=((Ay h).2.2.2 f hf).2 v hv
 simp only [Sm.known,h4,Bool.and_eq_true,Bool.or_eq_true]at hk
 rcases hk.2 with h | ⟨_,h⟩
 ·simp at h
 ·exact tw ((eH _ _).1 h)
def jZ (p:Pg) (x:ax):List ax:=match p.find x with | some f=>f.calls | none=> []
def ni (out:List ax):List ax→List ax
 | []=>out
 | x::l=>ni (nD out x) l
def jg (p:Pg):Nat→Nat→List ax→List ax
 | 0,_,out=>out
 | n+1,i,out=>match out[i]? with
  | some x=>jg p n (i+1) (ni out (jZ p x))
  | none=>out
def Pg.work (p:Pg) (name:ax):List ax:=jg p (p.procs.length+1) 0 [name]
def Good (p:Pg) (out:List ax):Prop:=out.Nodup∧∀ x∈out,∃ f,p.find x=some f
theorem Good.len {p:Pg} {out:List ax} (h:Good p out):out.length≤p.procs.length:=by
 have:=qb out p.pn h.1 fun x m=>by
  obtain⟨f,hf⟩:=h.2 x m
  obtain⟨h1,h2⟩:=kG hf
  rw [← h2];exact List.mem_map_of_mem h1
 simpa [Pg.pn]using this
theorem Good.Q3 {p:Pg} {out:List ax} (h:Good p out) {x:ax} (hx : ∃ f,p.find x=some f):Good p (nD out x):=by
 unfold nD
 split
 ·exact h
 ·rename_i e
  have:x∉out:=fun m=>e ((eH _ _).2 m)
  refine⟨List.nodup_append.2 ⟨h.1,by simp,fun a ha b hb e'=> ?_⟩,fun y hy=> ?_⟩
  ·have YL:b=x:=by simpa using hb
   rw [e',YL]at ha;exact this ha
  ·rcases List.mem_append.1 hy with hy | hy
   ·exact h.2 y hy
   ·have:y=x:=by simpa using hy
    subst this;exact hx
theorem Good.add {p:Pg} : ∀ {l out:List ax},Good p out→(∀ x∈l,∃ f,p.find x=some f)→Good p (ni out l)
 | [],out,h,_=>h
 | x::l,out,h,hx=>Good.add (l:=l) (out:=nD out x) (Good.Q3 h (hx x List.mem_cons_self)) fun y m=>hx y (List.mem_cons_of_mem _ m)
end Go.Abs

/-! Tc3 -/

namespace Go.Abs
open Go.Proofs
def tgB:Bool→Tag
 | true=> .tok 0
 | false=> .full
def tkB:Bool→Nat→List (Option Nat)
 | true,n=> [some n]
 | false,_=> []
end Go.Abs

/-! Bsl -/

namespace Go.Abs
def rF:AI→AI
 | .op d g (.dd z k n ps)=> .op d g (.oL z k n ps)
 | a=>a
section
variable {P:Program}
theorem Bp {nt:Nat} {ops:Array Oper} {i:Nat} {o:Oper} {ai:AI} (hi:ops[i]? = some o) (hc:cI P nt ops o=some ai)
 {M:Map} {s:St} {w:World} {tm:Tm} {act:Act} (r:Rel M s w) (ib:Laid M s w) (ht:iF M s tm act.tmps) {K':Tm→St→Prop} (h:fk P [rF ai] K' tm s)
 {K:Act→World→Prop} {Q:Exit→Act→World→Prop}
 (hK : ∀ d v s1 w1 M1,K' (tm.put ai.dst d) s1→Ext M s w M1 s1 w1→Rel M1 s1 w1→RD M1 s1 d v→K (act.put o.dst v) w1):wpOp P ops Q i K act w:=by
 by_cases hb : ∃ d g z k n ps,ai = .op d g (.dd z k n ps)
 ·obtain⟨d0,g0,z,k,n,ps,rfl⟩:=hb
  obtain⟨g,hg,_,hb⟩:=sW hc
  rw [nN hb]at hK
  simp only [wpOp,hi]
  have skip:K' (tm.put o.dst (.tuple [])) s→K (act.put o.dst Go.undef) w:=fun hk=>hK _ _ _ _ _ hk (Ext.refl M s w) r .undef
  have hd:=nN hb
  simp only [AI.dst]at hd
  subst hd
  have jT:vr P o=some (.dd z k n ps)∧g0=g:=by
   unfold nn at hb
   split at hb
   ·split at hb
    ·obtain⟨xs,_,h⟩:=map_some hb;cases h
    ·cases hb
   ·obtain⟨xs,_,h⟩:=map_some hb;cases h
   ·split at hb
    ·cases hb
    ·split at hb
     ·rename_i jT
      simp only [Option.some.injEq,AI.op.injEq,true_and]at hb
      obtain⟨h1,h2⟩:=hb
      split at h2
      ·cases h2
      ·cases h2;exact⟨jT,h1.symm⟩
     ·rename_i ao dC jT
      simp only [Option.some.injEq,AI.op.injEq,true_and]at hb
      obtain⟨h1,h2⟩:=hb
      subst h2
      exact⟨jT,h1.symm⟩
     ·cases hb
  obtain⟨jT,rfl⟩:=jT
  simp only [rF,fk]at h
  rcases gh hg ht h with ⟨hw,hA⟩ | ⟨hw,hB⟩
  ·simp only [hw,if_true]
   left
   split at hA
   ·rename_i d s' lP
    obtain⟨v,w',M',cE,r',hv,e'⟩:=rl jT r ht lP
    unfold Oper.wp
    rcases cE with cE | ⟨cE,rfl⟩
    ·rw [cE,Oper.upon_value]
     exact hK _ _ _ _ _ hA e' r' hv
    ·rw [cE,Oper.upon_skip]
     exact hK _ _ _ _ _ hA e' r' hv
   ·exact hA.elim
  ·simp only [hw]
   exact skip hB
 ·have hs:rF ai=ai:=by
   unfold rF
   split
   ·rename_i d g z k n ps;exact absurd ⟨d,g,z,k,n,ps,rfl⟩ hb
   ·rfl
  rw [hs]at h
  exact qm hi hc r ib ht h hK
theorem LC {a:AI} {r:List AI} {K:Tm→St→Prop} {tm:Tm} {s:St} (h:fk P (a::r) K tm s):fk P [a] (fk P r K) tm s:=by
 cases a <;> exact h
theorem yf {B:eR} {nt:Nat} {ops:Array Oper} {Q:Exit→Tm→St→Prop} : ∀ (l:List Nat) (ol:List Oper) (is:List AI),l.map (ops[·]?)=ol.map some→lX P nt ops ol=some is→
 ∀ (tm:Tm) (s:St) (act:Act) (w:World),fk P (is.map rF) (Q .normal) tm s→Holds B nt tm s act w→wpOps P ops (kS B nt Q) l act w
 | [],[],is,_,hc,tm,s,act,w,h,hh=>by cases hc;exact⟨tm,s,h,hh⟩
 | [],_::_,_,hl,_,_,_,_,_,_,_=>by simp at hl
 | _::_,[],_,hl,_,_,_,_,_,_,_=>by simp at hl
 | i::l,o::ol,is,hl,hc,tm,s,act,w,h,hh=>by
  simp only [List.map_cons,List.cons.injEq]at hl
  obtain⟨hi,hl⟩:=hl
  unfold lX at hc
  split at hc
  ·rename_i ai EX h1 h2
   cases hc
   obtain⟨M,e,r,ht,hn,hd⟩:=hh
   have lC:=qP h1
   have YM:=nO h1
   rw [List.map_cons]at h
   have key:=Bp (K:=fun act w=>wpOps P ops (kS B nt Q) l act w) (Q:=kS B nt Q) hi h1 r (B.laid.ext e) ht (LC h) (fun d v s1 w1 M1 hk e1 r1 hv=>
    yf (Q:=Q) l ol EX hl h2 _ _ _ _ hk (YM ▸ Holds.put e ht hn hd lC e1 r1 hv))
   simpa only [wpOps,wpOp,hi]using key
  ·cases hc
theorem Sem.swap {B:eR} {nt:Nat} {is:List AI} {Q:Exit→Tm→St→Prop} {tm:Tm} {s:St} (h:hO P B nt (.run (is.map rF)) Q tm s):Sem P B nt (.run is) Q tm s:=by
 intro c hc act w hh
 obtain⟨id,ops,rfl,hi⟩:=iH hc
 refine wp_region ?_
 exact yf _ _ is (sS ops) hi tm s act w (j6 h) hh
end
end Go.Abs

/-! Tc4 -/

namespace Go.Abs
set_option maxRecDepth 8000
open Go.Proofs
theorem Ek {l:List ax} (h:l.Nodup):iN l=gi l:=by
 refine qD ?_ (fz l).1 fun x=> ?_
 ·have h1:=yc l
  have h2:(iN l).Nodup:=(List.mergeSort_perm l _).nodup_iff.2 h
  refine(List.pairwise_and_iff.2 ⟨h1,h2⟩).imp fun {a b} Ki=> ?_
  rcases q7 a b with e | e | e
  ·exact e
  ·exact absurd e Ki.2
  ·rw [Ki.1]at e;cases e
 ·rw [(fz l).2];exact(List.mergeSort_perm l _).mem_iff
theorem qc {p:Pg} (eK:(p.scope.1==0)=true) : ∀ (n i:Nat) (out:List ax),Good p out→Good p (jg p n i out)
 | 0,i,out,h=>h
 | n+1,i,out,h=>by
  simp only [jg]
  split
  ·rename_i x hx
   obtain⟨g,hg⟩:=h.2 x (List.mem_of_getElem? hx)
   refine qc eK n _ _ (h.add fun y m=> ?_)
   unfold jZ at m
   rw [hg]at m
   exact nE eK (kG hg).1 m
  ·exact h
theorem pj {p:Pg} {name:ax} {f:Pc} (hf:p.find name=some f):Good p [name]:=
 ⟨by simp,fun x m=>by
  have:x=name:=by simpa using m
  subst this;exact⟨f,hf⟩⟩
theorem Kp {p:Pg} (h:p.my) (eK:(p.scope.1==0)=true) {name:ax} {f:Pc} (hf:p.find name=some f) (s:St):aH Try.prog nB [.cD (ie p) 0, .str name] s (.slice .shared 1 ((gi (p.work name)).map encStr)) s:=by
 refine aH.pure ?_ (by simp [D.bG,D.ok,xg]) (by simp only [D.ok,Tag.ok,er];rfl) s
 obtain⟨rS,q4,wi⟩:=h.procs
 obtain⟨R,hR⟩ : ∃ R,p.work name=R:=⟨_,rfl⟩
 have Q4:Good p R:=hR ▸ qc eK _ _ _ (pj hf)
 rw [hR, ← Ek Q4.1]
 unfold Pg.work at hR
 have YN:Good p [name]:=pj hf
 have Q2:=Q4.len
 unfold S0
 obtain⟨fn,sf,Aq⟩:=yy
 refine aH.intro ⟨fn,sf,Aq⟩ (Nat.le_of_ble_eq_true rfl) fun B hB=> ?_
 generalize hQ:mX (⟨[],[]⟩:St).al.length (⟨[],[]⟩:St).aq.length _ _ (⟨[],[]⟩:St)=Q
 have⟨hD,hF,hJ,hP⟩:=cf
 refine Sem.n8 ?_
 repeat' (first
 | simp only [go_sem,hD,hF,hJ,hP]
 | (with_reducible refine aL hQ ?_;simp only [aE,aF,Option.some.injEq,exists_eq_left',go_sem,hD,hF,hJ,hP];repeat' (first | exact Ok.out | with_reducible refine aV ?_ ?_ | (simp;done))))
 refine Sem.seq (Sem.swap ?_)
 simp only [List.map_cons,List.map_nil,rF]
 repeat' (first
 | simp only [go_sem,hD,hF,hJ,hP]
 | (with_reducible refine aL hQ ?_;simp only [aE,aF,Option.some.injEq,exists_eq_left',go_sem,hD,hF,hJ,hP];repeat' (first | exact Ok.out | with_reducible refine aV ?_ ?_ | (simp;done))))
 refine Sem.n8 ?_
 repeat' (first
 | simp only [go_sem,hD,hF,hJ,hP]
 | (with_reducible refine aL hQ ?_;simp only [aE,aF,Option.some.injEq,exists_eq_left',go_sem,hD,hF,hJ,hP];repeat' (first | exact Ok.out | with_reducible refine aV ?_ ?_ | (simp;done))))
 refine dM 0 1 (bx.ind (ι:=Nat×Nat×List ax×Nat) (fun i=>jg p i.1 i.2.1 i.2.2.1=R∧Good p i.2.2.1∧i.1+i.2.1=p.procs.length+1∧i.2.2.2=i.2.2.1.length) (fun i=>i.1)
  (fun i=> [(0, .cD (ie p) 0),(5, .slice (.tok 0) 1 (i.2.2.1.map encStr)),(6, .int .i64 (i.2.1:Int))]) (fun i=>⟨[],[some i.2.2.2]⟩) ?_ (p.procs.length+1,0,[name],1) ⟨hR,YN,rfl,rfl⟩)
 rintro⟨n,i,out,no⟩ ⟨h1,h2,h3,h4⟩ IH
 dsimp only at h1 h2 h3 h4
 subst h4
 have k9:=h2.len
 cases hx:out[i]? with
 | none=>
  have hD:decide ((i:Int)<(out.length:Int))=false:=by have:=List.getElem?_eq_none_iff.1 hx;simp;omega
  have:R=out:=by
   cases n with
   | zero=>simpa [jg]using h1.symm
   | succ n=>simp only [jg,hx]at h1;exact h1.symm
  subst this
  repeat' (first
 | simp only [go_sem,hD,hF,hJ,hP]
 | (with_reducible refine aL hQ ?_;simp only [aE,aF,Option.some.injEq,exists_eq_left',go_sem,hD,hF,hJ,hP];repeat' (first | exact Ok.out | with_reducible refine aV ?_ ?_ | (simp;done))))
  refine Sem.seq (Sem.sort (k:=5) (t:=0) (l:=R) hB (by decide) (by decide) (by decide) rfl rfl (by omega) ?_)
  refine gk (ac:=QN) (Q:=Q) (tm:= [(5, .slice (.tok 0) 1 ((iN R).map encStr))]) (s:=⟨[],[some R.length]⟩) ?_
  repeat' (first
 | simp only [go_sem,hD,hF,hJ,hP]
 | (with_reducible refine aL hQ ?_;simp only [aE,aF,Option.some.injEq,exists_eq_left',go_sem,hD,hF,hJ,hP];repeat' (first | exact Ok.out | with_reducible refine aV ?_ ?_ | (simp;done))))
 | some x=>
  have l7:=(List.getElem?_eq_some_iff.1 hx).1
  have hD:decide ((i:Int)<(out.length:Int))=true:=by simp;omega
  have sQ:i<4611686018427387904:=by omega
  cases n with
  | zero=>omega
  | succ n=>
  simp only [jg,hx]at h1
  obtain⟨g,Az⟩:=h2.2 x (List.mem_of_getElem? hx)
  have N6:=(kG Az).1
  have yg:=fun s=>BW h Az s
  have YO:jZ p x=g.calls:=by unfold jZ;rw [Az]
  rw [YO]at h1
  have Q5 : ∀ y∈g.calls,∃ f,p.find y=some f:=fun y m=>nE eK N6 m
  have ZP:g.calls.length≤p.procs.length:=Good.len ⟨mA (fz _).1,Q5⟩
  obtain⟨W,hW⟩ : ∃ W,ni out g.calls=W:=⟨_,rfl⟩
  rw [hW]at h1
  repeat' (first
 | simp only [go_sem,hD,hF,hJ,hP,hx]
 | (with_reducible refine CU (yg _) ?_)
 | (with_reducible refine aL hQ ?_;simp only [aE,aF,Option.some.injEq,exists_eq_left',go_sem,hD,hF,hJ,hP];repeat' (first | exact Ok.out | with_reducible refine aV ?_ ?_ | (simp;done))))
  refine dM 0 1 (bx.ind (ι:=List ax×Nat×List ax×Nat) (fun j=>g.calls.drop j.2.1=j.1∧ni j.2.2.1 j.1=W∧Good p j.2.2.1∧j.2.2.2=j.2.2.1.length) (fun j=>j.1.length)
   (fun j=> [(0, .cD (ie p) 0),(5, .slice (.tok 0) 1 (j.2.2.1.map encStr)),(6, .int .i64 (i:Int)),(22, .slice .shared 1 (g.calls.map encStr)),(23, .int .i64 (g.calls.length:Int)),(24, .int .i64 (j.2.1:Int))]) (fun j=>⟨[],[some j.2.2.2]⟩) ?_ (g.calls,0,out,out.length) ⟨rfl,hW,h2,rfl⟩)
  clear hW
  rintro⟨rest,k,bq,n'⟩ ⟨j1,j2,j3,j4⟩ Kl
  dsimp only at j1 j2 j3 j4
  subst j4
  have ZQ:=j3.len
  cases rest with
  | nil=>
   have Si:=drop_nil j1
   simp only [ni]at j2
   subst j2
   repeat' (first
 | simp only [go_sem,hD,hF,hJ,hP,Si]
 | (with_reducible refine aL hQ ?_;simp only [aE,aF,Option.some.injEq,exists_eq_left',go_sem,hD,hF,hJ,hP];repeat' (first | exact Ok.out | with_reducible refine aV ?_ ?_ | (simp;done))))
   refine ep 0 1 ?_ ?_ (IH (n,i+1,bq,bq.length) ⟨h1,j3,by dsimp only;omega,rfl⟩ (Nat.lt_succ_self _))
   ·(simp only [go_sem,hD,hF,hJ,hP,aQ sQ];try exact bQ)
   ·(simp only [go_sem,hD,hF,hJ,hP,aQ sQ];try exact bQ)
  | cons y rest=>
   obtain⟨qB,BS,As,QV⟩:=drop_cons j1
   have uC:k<4611686018427387904:=by omega
   have hJ:(bq.length+1)*17≤bO:=by unfold bO;omega
   have tx:=fun g s=>gI (l:=bq) (by omega) y g s
   have hy:=Q5 y (List.mem_of_getElem? qB)
   have ux:=j3.Q3 hy
   simp only [ni]at j2
   rcases Bool.eq_false_or_eq_true (c7 bq y)with c1 | c1
   ·simp only [nD,c1,if_true]at j2
    repeat' (first
 | simp only [go_sem,hD,hF,hJ,hP,As,qB,c1]
 | (with_reducible refine CU (tx _ _) ?_)
 | (with_reducible refine aL hQ ?_;simp only [aE,aF,Option.some.injEq,exists_eq_left',go_sem,hD,hF,hJ,hP];repeat' (first | exact Ok.out | with_reducible refine aV ?_ ?_ | (simp;done))))
    refine ep 0 1 ?_ ?_ (Kl (rest,k+1,bq,bq.length) ⟨BS,j2,j3,rfl⟩ (Nat.lt_succ_self _))
    ·(simp only [go_sem,hD,hF,hJ,hP,aQ uC];try exact bQ)
    ·(simp only [go_sem,hD,hF,hJ,hP,aQ uC];try exact bQ)
   ·simp only [nD,c1,Bool.false_eq_true,if_false]at j2 ux
    repeat' (first
 | simp only [go_sem,hD,hF,hJ,hP,As,qB,c1]
 | (with_reducible refine CU (tx _ _) ?_)
 | (with_reducible refine aL hQ ?_;simp only [aE,aF,Option.some.injEq,exists_eq_left',go_sem,hD,hF,hJ,hP];repeat' (first | exact Ok.out | with_reducible refine aV ?_ ?_ | (simp;done))))
    refine ep 0 1 ?_ ?_ (Kl (rest,k+1,bq++ [y],bq.length+1) ⟨BS,j2,ux,by simp⟩ (Nat.lt_succ_self _))
    ·(simp only [go_sem,hD,hF,hJ,hP,aQ uC,List.map_append,List.map_cons,List.map_nil,encStr];try exact bQ)
    ·(simp only [go_sem,hD,hF,hJ,hP,aQ uC,List.map_append,List.map_cons,List.map_nil,encStr];try exact bQ)
end Go.Abs

/-! Tc5 -/

namespace Go.Abs
set_option maxRecDepth 8000
open Go.Proofs
theorem AA (name:ax) : ∀ l:List Pc,l.any (fun f=>f.name==name)=(kn name l).isSome
 | []=>rfl
 | f::l=>by
  simp only [List.any_cons,kn]
  cases e:(f.name==name)
  ·simp [AA name l]
  ·simp
theorem Jb (name:ax) (f:Pc):aH Try.prog km ([.agg (bP f)]++ [.ptr 0 0]) ⟨[[.str name]],[]⟩ (.bool (f.name==name)) ⟨[[.str name]],[]⟩:=by
 show aH Try.prog km [.agg (bP f), .ptr 0 0] _ _ _
 refine aH.go ug rfl fun B Q hB hQ=> ?_
 have⟨hD,hF,hJ,hP⟩:=cf
 repeat' (first
 | simp only [go_sem,hD,hF,hJ,hP]
 | (with_reducible refine aL hQ ?_;simp only [aE,aF,Option.some.injEq,exists_eq_left',go_sem,hD,hF,hJ,hP];repeat' (first | exact Ok.out | with_reducible refine aV ?_ ?_ | (simp;done))))
def Pg.jO (p:Pg) (name:ax):Option Pc:=if p.scope.1==0 then p.find name else none
theorem vg {p:Pg} (h:p.my) (name:ax) (s:St):aH Try.prog jY [.agg (b7 p), .str name] s (.bool (p.jO name).isSome) s:=by
 refine aH.pure ?_ (by simp [D.bG,D.ok,lG]) rfl s
 obtain⟨rS,q4,wi⟩:=h.procs
 have Bw:=fun s=>Ap h s
 have hi:=fun {s:St} {o:Nat} (ho:s.al[o]? = some [.str name])=>tg (sq (l:=p.procs) (f:=km) (row:= [.str name]) (b:=fun f:Pc=>f.name==name) (by omega) rfl (by with_unfolding_all rfl) (fun x _=>Jb name x)) rfl (yN _) rfl ho
 have fN:=fun {s:St} {o:Nat} (ho:s.al[o]? = some [.str name])=>(show aH Try.prog ew [.slice .shared 5 (p.procs.map bP), .ez 64 [.ptr o 0]] s (.bool (p.procs.any fun f:Pc=>f.name==name)) s from hi ho)
 simp only [AA]at fN
 unfold Pg.jO Pg.find
 unfold S0
 rcases Bool.eq_false_or_eq_true (p.scope.1==0)with b1 | b1
 ·simp only [b1,if_true]
  refine aH.go pV rfl fun B Q hB hQ=> ?_
  have⟨hD,hF,hJ,hP⟩:=cf
  repeat' (first
 | simp only [go_sem,hD,hF,hJ,hP,b1]
 | (with_reducible refine CU (Bw _) ?_)
 | (with_reducible refine CU (fN (by with_unfolding_all rfl)) ?_)
 | (with_reducible refine aL hQ ?_;simp only [aE,aF,Option.some.injEq,exists_eq_left',go_sem,hD,hF,hJ,hP];repeat' (first | exact Ok.out | with_reducible refine aV ?_ ?_ | (simp;done))))
 ·simp only [b1,Bool.false_eq_true,if_false,Option.isSome_none]
  refine aH.go pV rfl fun B Q hB hQ=> ?_
  have⟨hD,hF,hJ,hP⟩:=cf
  repeat' (first
 | simp only [go_sem,hD,hF,hJ,hP,b1]
 | (with_reducible refine CU (Bw _) ?_)
 | (with_reducible refine CU (fN (by with_unfolding_all rfl)) ?_)
 | (with_reducible refine aL hQ ?_;simp only [aE,aF,Option.some.injEq,exists_eq_left',go_sem,hD,hF,hJ,hP];repeat' (first | exact Ok.out | with_reducible refine aV ?_ ?_ | (simp;done))))
def Pg.lj (p:Pg) (name:ax):List ax:=match p.jO name with | some f=>f.calls | none=> []
def Pg.fp (p:Pg) (name:ax):List ax:=match p.jO name with | some _=>gi (p.work name) | none=> []
theorem lS {p:Pg} {name:ax} {f:Pc} (h:p.jO name=some f):(p.scope.1==0)=true∧p.find name=some f:=by
 unfold Pg.jO at h
 split at h
 ·exact⟨by assumption,h⟩
 ·cases h
theorem sg {p:Pg} (h:p.my) (name:ax) (s:St):aH Try.prog lq [.agg (b7 p), .str name] s (.slice .shared 1 ((p.lj name).map encStr)) s:=by
 refine aH.pure ?_ (by simp [D.bG,D.ok,lG]) (by simp only [D.ok,Tag.ok,er];rfl) s
 obtain⟨rS,q4,wi⟩:=h.procs
 have hk:=fun s=>vg h name s
 have cH:=fun s=>yP (p:=p) (by omega) s
 unfold Pg.lj
 unfold S0
 cases pk:p.jO name with
 | none=>
  simp only [pk,Option.isSome_none]at hk
  simp only [List.map_nil]
  refine aH.go pU rfl fun B Q hB hQ=> ?_
  have⟨hD,hF,hJ,hP⟩:=cf
  repeat' (first
 | simp only [go_sem,hD,hF,hJ,hP]
 | (with_reducible refine CU (hk _) ?_)
 | (with_reducible refine aL hQ ?_;simp only [aE,aF,Option.some.injEq,exists_eq_left',go_sem,hD,hF,hJ,hP];repeat' (first | exact Ok.out | with_reducible refine aV ?_ ?_ | (simp;done))))
 | some f=>
  obtain⟨eK,hf⟩:=lS pk
  have yg:=fun s=>BW h hf s
  simp only [pk,Option.isSome_some]at hk
  refine aH.go pU rfl fun B Q hB hQ=> ?_
  have⟨hD,hF,hJ,hP⟩:=cf
  repeat' (first
 | simp only [go_sem,hD,hF,hJ,hP]
 | (with_reducible refine CU (hk _) ?_)
 | (with_reducible refine CU (cH _) ?_)
 | (with_reducible refine CU (yg _) ?_)
 | (with_reducible refine aL hQ ?_;simp only [aE,aF,Option.some.injEq,exists_eq_left',go_sem,hD,hF,hJ,hP];repeat' (first | exact Ok.out | with_reducible refine aV ?_ ?_ | (simp;done))))
theorem nF {p:Pg} (h:p.my) (name:ax) (s:St):aH Try.prog j7 [.agg (b7 p), .str name] s (.slice .shared 1 ((p.fp name).map encStr)) s:=by
 refine aH.pure ?_ (by simp [D.bG,D.ok,lG]) (by simp only [D.ok,Tag.ok,er];rfl) s
 obtain⟨rS,q4,wi⟩:=h.procs
 have hk:=fun s=>vg h name s
 have cH:=fun s=>yP (p:=p) (by omega) s
 unfold Pg.fp
 unfold S0
 cases pk:p.jO name with
 | none=>
  simp only [pk,Option.isSome_none]at hk
  simp only [List.map_nil]
  refine aH.go sb rfl fun B Q hB hQ=> ?_
  have⟨hD,hF,hJ,hP⟩:=cf
  repeat' (first
 | simp only [go_sem,hD,hF,hJ,hP]
 | (with_reducible refine CU (hk _) ?_)
 | (with_reducible refine aL hQ ?_;simp only [aE,aF,Option.some.injEq,exists_eq_left',go_sem,hD,hF,hJ,hP];repeat' (first | exact Ok.out | with_reducible refine aV ?_ ?_ | (simp;done))))
 | some f=>
  obtain⟨eK,hf⟩:=lS pk
  have yg:=fun s=>Kp h eK hf s
  simp only [pk,Option.isSome_some]at hk
  refine aH.go sb rfl fun B Q hB hQ=> ?_
  have⟨hD,hF,hJ,hP⟩:=cf
  repeat' (first
 | simp only [go_sem,hD,hF,hJ,hP]
 | (with_reducible refine CU (hk _) ?_)
 | (with_reducible refine CU (cH _) ?_)
 | (with_reducible refine CU (yg _) ?_)
 | (with_reducible refine aL hQ ?_;simp only [aE,aF,Option.some.injEq,exists_eq_left',go_sem,hD,hF,hJ,hP];repeat' (first | exact Ok.out | with_reducible refine aV ?_ ?_ | (simp;done))))
end Go.Abs

/-! Tc6 -/

namespace Go.Abs
set_option maxRecDepth 8000
open Go.Proofs
def kN (p:Pg) (out:List ax):List ax→List ax
 | []=>out
 | v::l=>kN p (if c7 p.globals v then out++ [v]else out) l
def kO (p:Pg) (out:List ax):List Sm→List ax
 | []=>out
 | v::l=>kO p (kN p out v.said) l
def lk (p:Pg) (n:ax):List Sm:=match p.find n with | some f=>Sm.gd f.body | none=> []
def ly (p:Pg) (out:List ax):List ax→List ax
 | []=>out
 | n::l=>ly p (kO p out (lk p n)) l
theorem rG (p:Pg) : ∀ (l out:List ax),out.length≤(kN p out l).length∧(kN p out l).length≤out.length+l.length
 | [],out=>⟨Nat.le_refl _,Nat.le_refl _⟩
 | v::l,out=>by
  simp only [kN]
  have h:=rG p l (if c7 p.globals v then out++ [v]else out)
  have h2:out.length≤(if c7 p.globals v then out++ [v]else out).length∧(if c7 p.globals v then out++ [v]else out).length≤out.length+1:=by split <;> simp
  simp only [List.length_cons]
  omega
def ko:List Sm→Nat
 | []=>0
 | v::l=>v.said.length+ko l
theorem tz : ∀ a b:List Sm,ko (a++b)=ko a+ko b
 | [],b=>by simp [ko]
 | v::a,b=>by simp only [List.cons_append,ko,tz a b];omega
theorem LD (v:Sm):v.said.length≤1+v.x.size+2*Ar.aT v.args:=by
 have : ∀ (l:List Ar) (out:List ax),(Ar.said out l).length≤out.length+2*Ar.aT l:=by
  intro l
  induction l with
  | nil=>intro out;simp [Ar.said]
  | cons a l ih=>
   intro out
   simp only [Ar.said,Ar.aT]
   refine Nat.le_trans (ih _) ?_
   have:=gO a.x
   have:1≤a.x.size:=by obtain⟨_,_,_,_⟩:=a.x;simp [Ex.size]
   simp only [List.length_append]
   split <;> simp <;> omega
 have h1:=this v.args (v.oH++v.x.names)
 have h2:=gO v.x
 have h4:v.oH.length≤1:=by unfold Sm.oH;split <;> simp
 simp only [List.length_append]at h1
 unfold Sm.said
 omega
mutual
theorem GF : ∀ s:Sm,ko s.pre≤2*s.size
 | ⟨id,kind,labels,name,proc,x,has,args,bf,bb⟩=>by
  simp only [Sm.pre,ko,tz,Sm.size]
  have h1:=LD ⟨id,kind,labels,name,proc,x,has,args,bf,bb⟩
  have h2:=oK bf
  have h3:=oK bb
  dsimp only at h1
  omega
theorem oK : ∀ l:List Sm,ko (Sm.gd l)≤2*Sm.aT l
 | []=>by simp [Sm.gd,ko,Sm.aT]
 | s::l=>by
  simp only [Sm.gd,tz,Sm.aT]
  have:=GF s;have:=oK l;omega
end
theorem rH (p:Pg) : ∀ (l:List Sm) (out:List ax),out.length≤(kO p out l).length∧(kO p out l).length≤out.length+ko l
 | [],out=>⟨Nat.le_refl _,Nat.le_refl _⟩
 | v::l,out=>by
  simp only [kO,ko]
  have h:=rH p l (kN p out v.said)
  have h2:=rG p v.said out
  omega
theorem rI {p:Pg} (h:p.my) : ∀ (l out:List ax),out.length≤(ly p out l).length∧(ly p out l).length≤out.length+l.length*1800000
 | [],out=>⟨Nat.le_refl _,by simp [ly]⟩
 | n::l,out=>by
  simp only [ly]
  have h1:=rI h l (kO p out (lk p n))
  have h2:=rH p (lk p n) out
  have h3:ko (lk p n)≤1800000:=by
   unfold lk
   split
   ·rename_i f hf
    have:=oK f.body
    have h4:=Pc.b8 (kG hf).1
    have h5:=h.procs.2.1
    simp only [Pc.size]at h4
    omega
   ·simp [ko]
  simp only [List.length_cons]
  omega
theorem GG {p:Pg} (h:p.may=true):p.procs.length≤16:=by
 unfold Pg.may at h
 split at h
 ·cases h
 ·rename_i c
  simp only [Bool.or_eq_true,decide_eq_true_eq,not_or,Int.not_lt,gt_iff_lt]at c
  have:=c.1.2
  omega
def Pg.nj (p:Pg) (name:ax):List ax:=ly p [] (gi (p.work name))
def Pg.iO (p:Pg) (name:ax):List ax:=match p.jO name with | some _=>gi (p.nj name) | none=> []
theorem vh {p:Pg} (eK:(p.scope.1==0)=true) {name:ax} {f:Pc} (hf:p.find name=some f):Good p (gi (p.work name)):=by
 have h:=qc eK (p.procs.length+1) 0 [name] (pj hf)
 refine⟨mA (fz _).1,fun x m=>h.2 x ?_⟩
 exact((fz _).2 x).1 m
theorem tA {p:Pg} (h:p.my) (name:ax) (s:St):aH Try.prog gp [.agg (b7 p), .str name] s (.slice .shared 1 ((p.iO name).map encStr)) s:=by
 refine aH.pure ?_ (by simp [D.bG,D.ok,lG]) (by simp only [D.ok,Tag.ok,er];rfl) s
 have hk:=fun s=>vg h name s
 have cH:=fun s=>yP (p:=p) (by have:=h.procs;omega) s
 unfold Pg.iO
 unfold S0
 cases pk:p.jO name with
 | none=>
  simp only [pk,Option.isSome_none]at hk
  simp only [List.map_nil]
  refine aH.go ow rfl fun B Q hB hQ=> ?_
  have⟨hD,hF,hJ,hP⟩:=cf
  repeat' (first
 | simp only [go_sem,hD,hF,hJ,hP]
 | (with_reducible refine CU (hk _) ?_)
 | (with_reducible refine aL hQ ?_;simp only [aE,aF,Option.some.injEq,exists_eq_left',go_sem,hD,hF,hJ,hP];repeat' (first | exact Ok.out | with_reducible refine aV ?_ ?_ | (simp;done))))
 | some f=>
 obtain⟨eK,hf⟩:=lS pk
 simp only [pk,Option.isSome_some]at hk
 dsimp only
 obtain⟨rS,q4,wi⟩:=h.procs
 have hN:=vh eK hf
 obtain⟨N,N7⟩ : ∃ N,gi (p.work name)=N:=⟨_,rfl⟩
 rw [N7]at hN
 have hNl:=hN.len
 obtain⟨R,hR⟩ : ∃ R,p.nj name=R:=⟨_,rfl⟩
 rw [hR]
 unfold Pg.nj at hR
 rw [N7]at hR
 have Q2:R.length≤28800000:=by
  have:=(rI h N []).2
  rw [hR]at this
  have h4:=GG (Gx eK)
  have h3:N.length*1800000≤16*1800000:=Nat.mul_le_mul_right _ (by omega)
  simp only [List.length_nil]at this
  omega
 have yg:=fun s=>Kp h eK hf s
 simp only [N7]at yg
 obtain⟨fn,sf,Aq⟩:=ow
 refine aH.intro ⟨fn,sf,Aq⟩ (Nat.le_of_ble_eq_true rfl) fun B hB=> ?_
 generalize hQ:mX (⟨[],[]⟩:St).al.length (⟨[],[]⟩:St).aq.length _ _ (⟨[],[]⟩:St)=Q
 have⟨hD,hF,hJ,hP⟩:=cf
 refine Sem.n8 ?_
 repeat' (first
 | simp only [go_sem,hD,hF,hJ,hP]
 | (with_reducible refine aL hQ ?_;simp only [aE,aF,Option.some.injEq,exists_eq_left',go_sem,hD,hF,hJ,hP];repeat' (first | exact Ok.out | with_reducible refine aV ?_ ?_ | (simp;done))))
 refine Sem.n8 ?_
 repeat' (first
 | simp only [go_sem,hD,hF,hJ,hP]
 | (with_reducible refine CU (hk _) ?_)
 | (with_reducible refine aL hQ ?_;simp only [aE,aF,Option.some.injEq,exists_eq_left',go_sem,hD,hF,hJ,hP];repeat' (first | exact Ok.out | with_reducible refine aV ?_ ?_ | (simp;done))))
 refine Sem.n8 ?_
 repeat' (first
 | simp only [go_sem,hD,hF,hJ,hP]
 | (with_reducible refine CU (cH _) ?_)
 | (with_reducible refine aL hQ ?_;simp only [aE,aF,Option.some.injEq,exists_eq_left',go_sem,hD,hF,hJ,hP];repeat' (first | exact Ok.out | with_reducible refine aV ?_ ?_ | (simp;done))))
 refine Sem.n8 ?_
 repeat' (first
 | simp only [go_sem,hD,hF,hJ,hP]
 | (with_reducible refine aL hQ ?_;simp only [aE,aF,Option.some.injEq,exists_eq_left',go_sem,hD,hF,hJ,hP];repeat' (first | exact Ok.out | with_reducible refine aV ?_ ?_ | (simp;done))))
 refine Sem.n8 ?_
 repeat' (first
 | simp only [go_sem,hD,hF,hJ,hP]
 | (with_reducible refine CU (yg _) ?_)
 | (with_reducible refine aL hQ ?_;simp only [aE,aF,Option.some.injEq,exists_eq_left',go_sem,hD,hF,hJ,hP];repeat' (first | exact Ok.out | with_reducible refine aV ?_ ?_ | (simp;done))))
 refine bx.uU 6 1 rfl ?_
 simp only [go_sem,hD,hF,hJ,hP]
 refine dM 1 1 (bx.ind (ι:=List ax×Nat×List ax×Nat) (fun i=>N.drop i.2.1=i.1∧ly p i.2.2.1 i.1=R∧i.2.2.1.length≤R.length∧i.2.2.2=i.2.2.1.length) (fun i=>i.1.length)
  (fun i=> [(2, .ptr 0 0),(5, .cD (ie p) 0),(6, .slice (.tok 0) 1 (i.2.2.1.map encStr)),(21, .slice .shared 1 (N.map encStr)),(22, .int .i64 (N.length:Int)),(23, .int .i64 (i.2.1:Int))]) (fun i=>⟨[b7 p],[some i.2.2.2]⟩) ?_ (N,0,[],0) ⟨rfl,hR,Nat.zero_le _,rfl⟩)
 rintro⟨rest,k,out,no⟩ ⟨h1,h2,h3,h4⟩ IH
 dsimp only at h1 h2 h3 h4
 subst h4
 cases rest with
 | nil=>
  have hD:=drop_nil h1
  simp only [ly]at h2
  subst h2
  have wx:(iN out).length=out.length:=List.length_mergeSort out
  repeat' (first
 | simp only [go_sem,hD,hF,hJ,hP]
 | (with_reducible refine aL hQ ?_;simp only [aE,aF,Option.some.injEq,exists_eq_left',go_sem,hD,hF,hJ,hP];repeat' (first | exact Ok.out | with_reducible refine aV ?_ ?_ | (simp;done))))
  refine Sem.seq (Sem.sort (k:=6) (t:=0) (l:=out) hB (by decide) (by decide) (by decide) rfl rfl (by omega) ?_)
  refine Sem.seq (Sem.compact (k:=6) (t:=0) (l:=iN out) hB (by decide) rfl (by rw [wx];rfl) (by rw [wx];omega) ?_)
  rw [tu]
  refine gk (ac:= .ret) (Q:=Q) (tm:= [(59, .slice (.tok 0) 1 ((gi out).map encStr)),(4, .slice (.tok 0) 1 ((gi out).map encStr))]) (s:=⟨[],[some (gi out).length]⟩) ?_
  repeat' (first
 | simp only [go_sem,hD,hF,hJ,hP]
 | (with_reducible refine aL hQ ?_;simp only [aE,aF,Option.some.injEq,exists_eq_left',go_sem,hD,hF,hJ,hP];repeat' (first | exact Ok.out | with_reducible refine aV ?_ ?_ | (simp;done))))
 | cons x rest=>
  obtain⟨hF,g2,hD,g4⟩:=drop_cons h1
  have bY:k<4611686018427387904:=by omega
  obtain⟨g,Az⟩:=hN.2 x (List.mem_of_getElem? hF)
  have N6:=(kG Az).1
  have YP:lk p x=Sm.gd g.body:=by unfold lk;rw [Az]
  simp only [ly,YP]at h2
  obtain⟨j,hj,rV⟩:=tv (k:=0) Az
  have rV:p.at x=((j:Nat):Int):=by unfold Pg.at;simpa using rV
  have x5:=fun s=>Gb (p:=p) (by omega) x s
  simp only [rV]at x5
  obtain⟨it,q5,Gv⟩:=IP hj (by omega)
  have NY:it.length≤900000:=by
   have e:=congrArg List.length q5
   obtain⟨a,b,e',_,_,e3,e4⟩:=(pY p).2 j g hj
   have e5:=pZ p
   have e6:=congrArg List.length e3
   rw [e4]at e5
   simp only [List.length_map,List.length_append]at e e5 e6
   omega
  rw [← q5]at h2
  repeat' (first
 | simp only [go_sem,hD,hF,hJ,hP,hF]
 | (with_reducible refine CU (x5 _) ?_)
 | (with_reducible refine CU (Gv _) ?_)
 | (with_reducible refine aL hQ ?_;simp only [aE,aF,Option.some.injEq,exists_eq_left',go_sem,hD,hF,hJ,hP];repeat' (first | exact Ok.out | with_reducible refine aV ?_ ?_ | (simp;done))))
  obtain⟨W,hW⟩ : ∃ W,kO p out (it.map Im.s)=W:=⟨_,rfl⟩
  rw [hW]at h2
  have YQ:W.length≤R.length:=by have:=(rI h rest W).1;rw [h2]at this;exact this
  have Gu:out.length≤W.length:=by have:=(rH p (it.map Im.s) out).1;rw [hW]at this;exact this
  refine dM 1 1 (bx.ind (ι:=List Im×Nat×List ax×Nat) (fun i=>it.drop i.2.1=i.1∧kO p i.2.2.1 (i.1.map Im.s)=W∧i.2.2.1.length≤W.length∧i.2.2.2=i.2.2.1.length) (fun i=>i.1.length)
   (fun i=> [(2, .ptr 0 0),(5, .cD (ie p) 0),(6, .slice (.tok 0) 1 (i.2.2.1.map encStr)),(21, .slice .shared 1 (N.map encStr)),(22, .int .i64 (N.length:Int)),(23, .int .i64 (k:Int)),(31, .slice .shared 17 (it.map dX)),(32, .int .i64 (it.length:Int)),(33, .int .i64 (i.2.1:Int))]) (fun i=>⟨[b7 p],[some i.2.2.2]⟩) ?_ (it,0,out,out.length) ⟨rfl,hW,Gu,rfl⟩)
  rintro⟨yT,k2,vi,no⟩ ⟨j1,j2,j3,j4⟩ Ag
  dsimp only at j1 j2 j3 j4
  subst j4
  cases yT with
  | nil=>
   have Sj:=drop_nil j1
   simp only [List.map_nil,kO]at j2
   subst j2
   repeat' (first
 | simp only [go_sem,hD,hF,hJ,hP,Sj]
 | (with_reducible refine aL hQ ?_;simp only [aE,aF,Option.some.injEq,exists_eq_left',go_sem,hD,hF,hJ,hP];repeat' (first | exact Ok.out | with_reducible refine aV ?_ ?_ | (simp;done))))
   refine ep 1 1 ?_ ?_ (IH (rest,k+1,vi,vi.length) ⟨g2,h2,YQ,rfl⟩ (Nat.lt_succ_self _))
   ·(simp only [go_sem,hD,hF,hJ,hP,aQ bY];try exact bQ)
   ·(simp only [go_sem,hD,hF,hJ,hP,aQ bY];try exact bQ)
  | cons y yT=>
   obtain⟨qB,BS,As,QV⟩:=drop_cons j1
   have uC:k2<4611686018427387904:=by omega
   have YR:y.s∈Sm.gd g.body:=by rw [← q5];exact List.mem_map_of_mem (List.mem_of_getElem? qB)
   have JB:=h.said N6 _ YR
   have Gh:=fun s=>tj JB s
   have wx:=An _ JB
   simp only [List.map_cons,kO]at j2
   repeat' (first
 | simp only [go_sem,hD,hF,hJ,hP,As,qB]
 | (with_reducible refine CU (Gh _) ?_)
 | (with_reducible refine aL hQ ?_;simp only [aE,aF,Option.some.injEq,exists_eq_left',go_sem,hD,hF,hJ,hP];repeat' (first | exact Ok.out | with_reducible refine aV ?_ ?_ | (simp;done))))
   obtain⟨V,hV⟩ : ∃ V,kN p vi y.s.said=V:=⟨_,rfl⟩
   rw [hV]at j2
   have YS:V.length≤W.length:=by have:=(rH p (yT.map Im.s) V).1;rw [j2]at this;exact this
   have YT:vi.length≤V.length:=by have:=(rG p y.s.said vi).1;rw [hV]at this;exact this
   refine dM 1 1 (bx.ind (ι:=List ax×Nat×List ax×Nat) (fun i=>y.s.said.drop i.2.1=i.1∧kN p i.2.2.1 i.1=V∧i.2.2.1.length≤V.length∧i.2.2.2=i.2.2.1.length) (fun i=>i.1.length)
    (fun i=> [(2, .ptr 0 0),(5, .cD (ie p) 0),(6, .slice (.tok 0) 1 (i.2.2.1.map encStr)),(21, .slice .shared 1 (N.map encStr)),(22, .int .i64 (N.length:Int)),(23, .int .i64 (k:Int)),(31, .slice .shared 17 (it.map dX)),(32, .int .i64 (it.length:Int)),(33, .int .i64 (k2:Int)),(39, .slice .shared 1 (y.s.said.map encStr)),(40, .int .i64 (y.s.said.length:Int)),(41, .int .i64 (i.2.1:Int))]) (fun i=>⟨[b7 p],[some i.2.2.2]⟩) ?_ (y.s.said,0,vi,vi.length) ⟨rfl,hV,YT,rfl⟩)
   rintro⟨wA,k3,rJ,no⟩ ⟨l1,l2,l3,l4⟩ Q6
   dsimp only at l1 l2 l3 l4
   subst l4
   cases wA with
   | nil=>
    have Sk:=drop_nil l1
    simp only [kN]at l2
    subst l2
    repeat' (first
 | simp only [go_sem,hD,hF,hJ,hP,Sk]
 | (with_reducible refine aL hQ ?_;simp only [aE,aF,Option.some.injEq,exists_eq_left',go_sem,hD,hF,hJ,hP];repeat' (first | exact Ok.out | with_reducible refine aV ?_ ?_ | (simp;done))))
    refine ep 1 1 ?_ ?_ (Ag (yT,k2+1,rJ,rJ.length) ⟨BS,j2,YS,rfl⟩ (Nat.lt_succ_self _))
    ·(simp only [go_sem,hD,hF,hJ,hP,aQ uC];try exact bQ)
    ·(simp only [go_sem,hD,hF,hJ,hP,aQ uC];try exact bQ)
   | cons z wA=>
    obtain⟨N8,Q7,Q8,lg4⟩:=drop_cons l1
    have Kq:k3<4611686018427387904:=by omega
    have tx:=fun g s=>gI (l:=p.globals) (by omega) z g s
    simp only [kN]at l2
    rcases Bool.eq_false_or_eq_true (c7 p.globals z)with c1 | c1
    ·simp only [c1,if_true]at l2
     have hJ:(rJ.length+1)*17≤bO:=by unfold bO;omega
     have YV:(rJ++ [z]).length≤V.length:=by have:=(rG p wA (rJ++ [z])).1;rw [l2]at this;exact this
     repeat' (first
 | simp only [go_sem,hD,hF,hJ,hP,Q8,N8,c1]
 | (with_reducible refine CU (tx _ _) ?_)
 | (with_reducible refine aL hQ ?_;simp only [aE,aF,Option.some.injEq,exists_eq_left',go_sem,hD,hF,hJ,hP];repeat' (first | exact Ok.out | with_reducible refine aV ?_ ?_ | (simp;done))))
     refine ep 1 1 ?_ ?_ (Q6 (wA,k3+1,rJ++ [z],rJ.length+1) ⟨Q7,l2,YV,by simp⟩ (Nat.lt_succ_self _))
     ·(simp only [go_sem,hD,hF,hJ,hP,aQ Kq,List.map_append,List.map_cons,List.map_nil,encStr];try exact bQ)
     ·(simp only [go_sem,hD,hF,hJ,hP,aQ Kq,List.map_append,List.map_cons,List.map_nil,encStr];try exact bQ)
    ·simp only [c1,Bool.false_eq_true,if_false]at l2
     repeat' (first
 | simp only [go_sem,hD,hF,hJ,hP,Q8,N8,c1]
 | (with_reducible refine CU (tx _ _) ?_)
 | (with_reducible refine aL hQ ?_;simp only [aE,aF,Option.some.injEq,exists_eq_left',go_sem,hD,hF,hJ,hP];repeat' (first | exact Ok.out | with_reducible refine aV ?_ ?_ | (simp;done))))
     refine ep 1 1 ?_ ?_ (Q6 (wA,k3+1,rJ,rJ.length) ⟨Q7,l2,l3,rfl⟩ (Nat.lt_succ_self _))
     ·(simp only [go_sem,hD,hF,hJ,hP,aQ Kq];try exact bQ)
     ·(simp only [go_sem,hD,hF,hJ,hP,aQ Kq];try exact bQ)
end Go.Abs

/-! Tc7 -/

namespace Go.Abs
open Go.Proofs
end Go.Abs

/-! ScPr -/

namespace Go.Abs
set_option maxRecDepth 8000
open Go.Proofs
theorem vj {a b:List ax} (ha:a.length<4611686018427387904) (hb:b.length<4611686018427387904) (g:Tag) (s:St):aH Try.prog iA [.slice .shared 1 (a.map encStr), .slice g 1 (b.map encStr)] s (.bool (a.all fun x=>c7 b x)) s:=by
 refine(?_:cQ _ _ _ _ _)
 have key:aH Try.prog iA [.slice .shared 1 (a.map encStr), .slice .shared 1 (b.map encStr)] s (.bool (a.all fun x=>c7 b x)) s:=by
  refine aH.pure ?_ (by simp [D.bG,D.ok,Tag.ok,er]) rfl s
  have tx:=fun x g s=>NS hb x g s
  obtain⟨R,hR⟩ : ∃ R,(a.all fun x=>c7 b x)=R:=⟨_,rfl⟩
  rw [hR]
  unfold S0
  refine aH.go vW rfl fun B Q hB hQ=> ?_
  have⟨hD,hF,hJ,hP⟩:=cf
  repeat' (first
 | simp only [go_sem,hD,hF,hJ,hP]
 | (with_reducible first | refine cq fun hc=> ?_ | refine cr fun hc=> ?_ | refine ct (fun hc=> ?_) fun hc=> ?_) <;> (try simp only [hc,bs, ↓reduceIte]at h) <;> try simp only [hc]
 | (with_reducible refine aL hQ ?_;exact im)
 | (cases h;done))
  refine dM 0 0 (bx.ind (ι:=List ax×Nat) (fun i=>a.drop i.2=i.1∧(i.1.all fun x=>c7 b x)=R) (fun i=>i.1.length)
   (fun i=> [(1, .slice .shared 1 (b.map encStr)),(7, .slice .shared 1 (a.map encStr)),(8, .int .i64 (a.length:Int)),(9, .int .i64 (i.2:Int))]) (fun i=>⟨[],[]⟩) ?_ (a,0) ⟨rfl,hR⟩)
  clear hR
  rintro⟨rest,k⟩ ⟨h1,h2⟩ IH
  dsimp only at h1 h2
  cases rest with
  | nil=>
   have hD:=drop_nil h1
   simp only [List.all_nil]at h2
   subst h2
   repeat' (first
 | simp only [go_sem,hD,hF,hJ,hP]
 | (with_reducible first | refine cq fun hc=> ?_ | refine cr fun hc=> ?_ | refine ct (fun hc=> ?_) fun hc=> ?_) <;> (try simp only [hc,bs, ↓reduceIte]at h) <;> try simp only [hc]
 | (with_reducible refine aL hQ ?_;exact im)
 | (cases h;done))
  | cons x rest=>
   obtain⟨hF,g2,hD,g4⟩:=drop_cons h1
   have bY:k<4611686018427387904:=by omega
   simp only [List.all_cons]at h2
   rcases Bool.eq_false_or_eq_true (c7 b x)with c1 | c1
   ·simp only [c1,Bool.true_and]at h2
    repeat' (first
 | simp only [go_sem,hD,hF,hJ,hP,c1]
 | (with_reducible refine CU (tx _ _ _) ?_)
 | (with_reducible first | refine cq fun hc=> ?_ | refine cr fun hc=> ?_ | refine ct (fun hc=> ?_) fun hc=> ?_) <;> (try simp only [hc,bs, ↓reduceIte]at h) <;> try simp only [hc]
 | (with_reducible refine aL hQ ?_;(try cases h);simp only [aE,aF,dj,dk,go_sem,hD,hF,hJ,hP,c1];try exact la)
 | (cases h;done))
    refine ep 0 0 ?_ ?_ (IH (rest,k+1) ⟨g2,h2⟩ (Nat.lt_succ_self _))
    ·(simp only [go_sem,hD,hF,hJ,hP,aQ bY];try exact bQ)
    ·(simp only [go_sem,hD,hF,hJ,hP,aQ bY];try exact bQ)
   ·simp only [c1,Bool.false_and]at h2
    subst h2
    repeat' (first
 | simp only [go_sem,hD,hF,hJ,hP,c1]
 | (with_reducible refine CU (tx _ _ _) ?_)
 | (with_reducible first | refine cq fun hc=> ?_ | refine cr fun hc=> ?_ | refine ct (fun hc=> ?_) fun hc=> ?_) <;> (try simp only [hc,bs, ↓reduceIte]at h) <;> try simp only [hc]
 | (with_reducible refine aL hQ ?_;(try cases h);simp only [aE,aF,dj,dk,go_sem,hD,hF,hJ,hP,c1];try exact la)
 | (cases h;done))
 exact cQ.wV (.cons (Wk.refl _) (.cons (Wk.shared g 1 (b.map encStr)) .nil)) key
end Go.Abs

/-! ToP -/

namespace Go.Abs
theorem GK {out:List ax} {x y:ax} : y∈nD out x↔y∈out∨y=x:=by
 unfold nD
 split
 ·rename_i e
  have:=(eH _ _).1 e
  constructor
  ·exact .inl
  ·rintro(h | rfl) <;> assumption
 ·simp
theorem po {y:ax} : ∀ {l out:List ax},y∈ni out l↔y∈out∨y∈l
 | [],out=>by simp [ni]
 | x::l,out=>by
  simp only [ni,po (l:=l),GK,List.mem_cons,or_assoc]
theorem AB (p:Pg) {y:ax} : ∀ (n i:Nat) (out:List ax),y∈out→y∈jg p n i out
 | 0,i,out,h=>h
 | n+1,i,out,h=>by
  simp only [jg]
  split
  ·exact AB p n _ _ (po.2 (.inl h))
  ·exact h
theorem AE : ∀ (l out:List ax),∃ e,ni out l=out++e
 | [],out=>⟨[],by simp [ni]⟩
 | x::l,out=>by
  obtain⟨e,h⟩:=AE l (nD out x)
  simp only [ni,h]
  unfold nD
  split
  ·exact⟨e,rfl⟩
  ·exact⟨x::e,by simp⟩
theorem uE {p:Pg} (eK:(p.scope.1==0)=true) : ∀ (n i:Nat) (out:List ax),Good p out→n+i=p.procs.length+1→(∀ (j:Nat) (x:ax),j<i→out[j]? = some x→∀ y∈jZ p x,y∈out)→
 ∀ x∈jg p n i out,∀ y∈jZ p x,y∈jg p n i out
 | 0,i,out,hg,hn,hc,x,hx,y,hy=>by
  simp only [jg]at hx ⊢
  obtain⟨j,hj⟩:=List.getElem?_of_mem hx
  have:=hg.len
  have:=(List.getElem?_eq_some_iff.1 hj).1
  exact hc j x (by omega) hj y hy
 | n+1,i,out,hg,hn,hc,x,hx,y,hy=>by
  simp only [jg]at hx ⊢
  split at hx
  ·rename_i z hz
   obtain⟨g,zH⟩:=hg.2 z (List.mem_of_getElem? hz)
   refine uE eK n (i+1) _ (hg.add fun y m=> ?_) (by omega) (fun j x hj Kr y hy=> ?_) x hx y hy
   ·unfold jZ at m
    rw [zH]at m
    exact nE eK (kG zH).1 m
   ·obtain⟨e,he⟩:=AE (jZ p z) out
    have hi:=(List.getElem?_eq_some_iff.1 hz).1
    rw [he,List.getElem?_append_left (by omega)]at Kr
    rcases Nat.lt_or_ge j i with h1 | h1
    ·exact po.2 (.inl (hc j x h1 Kr y hy))
    ·have:j=i:=by omega
     subst this
     rw [hz]at Kr
     cases Kr
     exact po.2 (.inr hy)
  ·rename_i hz
   obtain⟨j,hj⟩:=List.getElem?_of_mem hx
   have h1:=(List.getElem?_eq_some_iff.1 hj).1
   have h2:=List.getElem?_eq_none_iff.1 hz
   exact hc j x (by omega) hj y hy
theorem wB {p:Pg} {S:ax→Prop} (hS : ∀ x,S x→∀ y∈jZ p x,S y) : ∀ (n i:Nat) (out:List ax),(∀ x∈out,S x)→∀ x∈jg p n i out,S x
 | 0,i,out,h,x,hx=>h x hx
 | n+1,i,out,h,x,hx=>by
  simp only [jg]at hx
  split at hx
  ·rename_i z hz
   exact wB hS n _ _ (fun y hy=>(po.1 hy).elim (h y) (hS z (h z (List.mem_of_getElem? hz)) y)) x hx
  ·exact h x hx
theorem yh {p:Pg} {x:ax} : ∀ {l out:List ax},x∈kN p out l↔x∈out∨(x∈l∧x∈p.globals)
 | [],out=>by simp [kN]
 | v::l,out=>by
  simp only [kN,yh (l:=l),List.mem_cons]
  cases e:c7 p.globals v
  ·have:v∉p.globals:=fun m=>by rw [(eH _ _).2 m]at e;cases e
   simp only [Bool.false_eq_true,if_false]
   constructor
   ·rintro(h | ⟨h,k⟩)
    ·exact .inl h
    ·exact .inr ⟨.inr h,k⟩
   ·rintro(h | ⟨rfl | h,k⟩)
    ·exact .inl h
    ·exact absurd k this
    ·exact .inr ⟨h,k⟩
  ·have:v∈p.globals:=(eH _ _).1 e
   simp only [if_true,List.mem_append,List.mem_singleton]
   constructor
   ·rintro((h | rfl) | ⟨h,k⟩)
    ·exact .inl h
    ·exact .inr ⟨.inl rfl,this⟩
    ·exact .inr ⟨.inr h,k⟩
   ·rintro(h | ⟨rfl | h,k⟩)
    ·exact .inl (.inl h)
    ·exact .inl (.inr rfl)
    ·exact .inr ⟨h,k⟩
def rK:List Sm→List ax
 | []=> []
 | v::l=>v.said++rK l
theorem yi {p:Pg} {x:ax} : ∀ {l:List Sm} {out:List ax},x∈kO p out l↔x∈out∨(x∈rK l∧x∈p.globals)
 | [],out=>by simp [kO,rK]
 | v::l,out=>by
  simp only [kO,yi (l:=l),yh,rK,List.mem_append]
  constructor
  ·rintro((h | ⟨h,k⟩) | ⟨h,k⟩)
   ·exact .inl h
   ·exact .inr ⟨.inl h,k⟩
   ·exact .inr ⟨.inr h,k⟩
  ·rintro(h | ⟨h | h,k⟩)
   ·exact .inl (.inl h)
   ·exact .inl (.inr ⟨h,k⟩)
   ·exact .inr ⟨h,k⟩
def rL (p:Pg):List ax→List ax
 | []=> []
 | n::l=>rK (lk p n)++rL p l
theorem yj {p:Pg} {x:ax} : ∀ {l:List ax},x∈rL p l↔∃ n∈l,x∈rK (lk p n)
 | []=>by simp [rL]
 | n::l=>by simp [rL,yj (l:=l)]
theorem yk {p:Pg} {x:ax} : ∀ {l out:List ax},x∈ly p out l↔x∈out∨(x∈rL p l∧x∈p.globals)
 | [],out=>by simp [ly,rL]
 | v::l,out=>by
  simp only [ly,yk (l:=l),yi,rL,List.mem_append]
  constructor
  ·rintro((h | ⟨h,k⟩) | ⟨h,k⟩)
   ·exact .inl h
   ·exact .inr ⟨.inl h,k⟩
   ·exact .inr ⟨.inr h,k⟩
  ·rintro(h | ⟨h | h,k⟩)
   ·exact .inl (.inl h)
   ·exact .inl (.inr ⟨h,k⟩)
   ·exact .inr ⟨h,k⟩
theorem yl {p:Pg} {nm x:ax} {f:Pc} (h:p.jO nm=some f):x∈p.iO nm↔(∃ n∈p.work nm,x∈rK (lk p n))∧x∈p.globals:=by
 unfold Pg.iO
 rw [h]
 dsimp only
 rw [(fz _).2]
 unfold Pg.nj
 rw [yk,yj]
 simp only [(fz _).2,List.not_mem_nil,false_or]
theorem BX {p:Pg} {nm x:ax} {f:Pc} (h:p.jO nm=some f):x∈p.fp nm↔x∈p.work nm:=by
 unfold Pg.fp
 rw [h]
 exact(fz _).2 x
theorem Jc {p:Pg} (eK:(p.scope.1==0)=true) (nm:ax):p.lj nm=jZ p nm:=by
 unfold Pg.lj jZ Pg.jO
 rw [if_pos eK] <;> rfl
end Go.Abs

/-! Full1 -/

namespace Go.Abs
set_option maxRecDepth 8000
open Go.Proofs
def bA (t:ax) (n:Int):Int:=if n > 20000 then 20001 else if(t.length:Int)≥20000 - n then 20001 else n+1+t.length
mutual
def cU:Ex→Int→Int
 | ⟨_,_,name,kids⟩,n=>jx kids (bA name n)
def jx:List Ex→Int→Int
 | [],n=>n
 | x::l,n=>if n≤20000 then jx l (cU x n)else n
end
theorem iP {t:ax} {n:Int} (h0:0≤n):bA t n≤20001∧(n≤20000→n+1≤bA t n)∧0≤bA t n∧(bA t n≤20000→n+1+t.length=bA t n):=by
 unfold bA;split
 ·omega
 ·split <;> omega
theorem pw : ∀ (m:Nat) (x:Ex),x.size≤m→∀ n:Int,0≤n→cU x n≤20001∧(n≤20000→n+1≤cU x n)∧0≤cU x n∧(cU x n≤20000→(x.size:Int)+1≤2*(cU x n - n)∧x.texts):=by
 intro m
 induction m with
 | zero=>rintro⟨op,v,name,kids⟩ h;simp only [Ex.size]at h;omega
 | succ m ih=>
  rintro⟨op,v,name,kids⟩ h n h0
  simp only [Ex.size]at h
  obtain⟨t1,t2,t3,t4⟩:=iP (t:=name) h0
  have go : ∀ (l:List Ex),Ex.aT l≤m→∀ c:Int,0≤c→c≤20001→jx l c≤20001∧c≤jx l c∧(jx l c≤20000→(Ex.aT l:Int)≤2*(jx l c - c)∧Ex.o9 l):=by
   intro l
   induction l with
   | nil=>intro _ c h0 h1;simp only [jx,Ex.aT];exact⟨h1,Int.le_refl _,fun _=>⟨by omega,trivial⟩⟩
   | cons y l YW=>
    intro hs c h0 h1
    simp only [Ex.aT]at hs ⊢
    simp only [jx]
    split
    ·rename_i hc
     obtain⟨a1,a2,a3,a4⟩:=ih y (by omega) c h0
     obtain⟨b1,b2,b3⟩:=YW (by omega) (cU y c) a3 a1
     have:=a2 hc
     refine⟨b1,by omega,fun hw=> ?_⟩
     obtain⟨c1,c2⟩:=b3 hw
     obtain⟨d1,d2⟩:=a4 (by omega)
     exact⟨by omega,d2,c2⟩
    ·exact⟨h1,Int.le_refl _,fun hw=>by omega⟩
  obtain⟨g1,g2,g3⟩:=go kids (by omega) (bA name n) t3 t1
  simp only [cU,Ex.size]
  refine⟨g1,fun hn=>by have:=t2 hn;omega,by omega,fun hw=> ?_⟩
  obtain⟨k1,k2⟩:=g3 hw
  have:=t4 (by omega)
  exact⟨by omega,by omega,k2⟩
theorem lM (t:ax) {n:Int} (h0:0≤n) (h1:n≤20001) (s:St):aH Try.prog dW [.str t, .int .i64 n] s (.int .i64 (bA t n)) s:=by
 refine aH.pure ?_ rfl rfl s
 unfold S0
 have w1:IntKind.wrap .i64 (20000 - n)=20000 - n:=dg (by omega) (by omega)
 have w2:IntKind.wrap .i64 (n+1)=n+1:=dg (by omega) (by omega)
 by_cases c:n > 20000
 ·have c1:decide (n > 20000)=true:=by simp;omega
  have e:bA t n=20001:=by simp [bA,c]
  rw [e]
  refine aH.go kD rfl fun B Q hB hQ=> ?_
  have⟨hD,hF,hJ,hP⟩:=cf
  repeat' (first
 | simp only [go_sem,hD,hF,hJ,hP,c1,w1,w2]
 | (with_reducible first | refine cq fun hc=> ?_ | refine cr fun hc=> ?_ | refine ct (fun hc=> ?_) fun hc=> ?_) <;> (try simp only [hc,bs, ↓reduceIte]at h) <;> try simp only [hc]
 | (with_reducible refine aL hQ ?_;(try cases h);simp only [aE,aF,dj,dk,go_sem,hD,hF,hJ,hP,c1,w1,w2];try exact la)
 | (cases h;done))
 ·have c1:decide (n > 20000)=false:=by simp;omega
  by_cases d:(t.length:Int)≥20000 - n
  ·have d1:decide ((t.length:Int)≥20000 - n)=true:=by simp;omega
   have e:bA t n=20001:=by unfold bA;rw [if_neg c,if_pos d]
   rw [e]
   refine aH.go kD rfl fun B Q hB hQ=> ?_
   have⟨hD,hF,hJ,hP⟩:=cf
   repeat' (first
 | simp only [go_sem,hD,hF,hJ,hP,c1,d1,w1,w2]
 | (with_reducible first | refine cq fun hc=> ?_ | refine cr fun hc=> ?_ | refine ct (fun hc=> ?_) fun hc=> ?_) <;> (try simp only [hc,bs, ↓reduceIte]at h) <;> try simp only [hc]
 | (with_reducible refine aL hQ ?_;(try cases h);simp only [aE,aF,dj,dk,go_sem,hD,hF,hJ,hP,c1,d1,w1,w2];try exact la)
 | (cases h;done))
  ·have d1:decide ((t.length:Int)≥20000 - n)=false:=by simp;omega
   have e:bA t n=n+1+t.length:=by unfold bA;rw [if_neg c,if_neg d]
   have w3:IntKind.wrap .i64 (n+1+t.length)=n+1+t.length:=dg (by omega) (by omega)
   rw [e]
   refine aH.go kD rfl fun B Q hB hQ=> ?_
   have⟨hD,hF,hJ,hP⟩:=cf
   repeat' (first
 | simp only [go_sem,hD,hF,hJ,hP,c1,d1,w1,w2,w3]
 | (with_reducible first | refine cq fun hc=> ?_ | refine cr fun hc=> ?_ | refine ct (fun hc=> ?_) fun hc=> ?_) <;> (try simp only [hc,bs, ↓reduceIte]at h) <;> try simp only [hc]
 | (with_reducible refine aL hQ ?_;(try cases h);simp only [aE,aF,dj,dk,go_sem,hD,hF,hJ,hP,c1,d1,w1,w2,w3];try exact la)
 | (cases h;done))
theorem AG : ∀ (m:Nat) (x:Ex),x.size≤m→∀ {n:Int},0≤n→n≤20000→∀ s:St,aH Try.prog ga [.agg (bu x), .int .i64 n] s (.int .i64 (cU x n)) s:=by
 intro m
 induction m with
 | zero=>rintro⟨op,v,name,kids⟩ h;simp only [Ex.size]at h;omega
 | succ m ih=>
  rintro⟨op,v,name,kids⟩ dr n h0 h1 s
  refine aH.pure ?_ (by simp [D.bG,D.ok,kc]) rfl s
  simp only [Ex.size]at dr
  have hk : ∀ y∈kids,∀ {n:Int},0≤n→n≤20000→∀ s:St,aH Try.prog ga [.agg (bu y), .int .i64 n] s (.int .i64 (cU y n)) s:=fun y hy=>ih y (by have:=Ex.b8 hy;omega)
  have ht:=fun s=>lM name h0 (by omega) s
  obtain⟨t1,t2,t3,t4⟩:=iP (t:=name) h0
  unfold S0
  generalize h:cU ⟨op,v,name,kids⟩ n=p
  simp only [cU]at h
  refine aH.go s9 rfl fun B Q hB hQ=> ?_
  have⟨hD,hF,hJ,hP⟩:=cf
  repeat' (first
 | simp only [go_sem,hD,hF,hJ,hP]
 | (with_reducible refine CU (ht _) ?_)
 | (with_reducible first | refine cq fun hc=> ?_ | refine cr fun hc=> ?_ | refine ct (fun hc=> ?_) fun hc=> ?_) <;> (try simp only [hc,bs, ↓reduceIte]at h) <;> try simp only [hc]
 | (with_reducible refine aL hQ ?_;exact im)
 | (cases h;done))
  refine dM 1 0 (bx.ind (ι:=List Ex×Nat×Int) (fun i=>kids.drop i.2.1=i.1∧jx i.1 i.2.2=p∧(i.2.1:Int)≤i.2.2∧i.2.2≤20001) (fun i=>i.1.length)
   (fun i=> [(1, .int .i64 i.2.2),(2, .ptr 0 0),(5, .int .i64 (i.2.1:Int))]) (fun i=>⟨[bu ⟨op,v,name,kids⟩],[]⟩) ?_ (kids,0,bA name n) ⟨rfl,h,t3,t1⟩)
  rintro⟨rest,k,c⟩ ⟨g1,h,g3,g4⟩ IH
  dsimp only at g1 h g3 g4
  cases rest with
  | nil=>
   have hD:=drop_nil g1
   simp only [jx]at h
   repeat' (first
 | simp only [go_sem,hD,hF,hJ,hP]
 | (with_reducible first | refine cq fun hc=> ?_ | refine cr fun hc=> ?_ | refine ct (fun hc=> ?_) fun hc=> ?_) <;> (try simp only [hc,bs, ↓reduceIte]at h) <;> try simp only [hc]
 | (with_reducible refine aL hQ ?_;exact im)
 | (cases h;done))
  | cons y rest=>
   obtain⟨hF,g2,hD,g5⟩:=drop_cons g1
   simp only [jx]at h
   by_cases hc:c≤20000
   ·have c1:decide (c≤20000)=true:=by simp;omega
    have hy:=fun s=>hk y (List.mem_of_getElem? hF) (n:=c) (by omega) hc s
    obtain⟨a1,a2,a3,a4⟩:=pw _ y (Nat.le_refl _) c (by omega)
    have:=a2 hc
    have w3:IntKind.wrap .i64 ((k:Int)+1)=((k+1:Nat):Int):=by rw [dg] <;> omega
    rw [if_pos hc]at h
    repeat' (first
 | simp only [go_sem,hD,hF,hJ,hP,c1,w3]
 | (with_reducible refine CU (hy _) ?_)
 | (with_reducible first | refine cq fun hc=> ?_ | refine cr fun hc=> ?_ | refine ct (fun hc=> ?_) fun hc=> ?_) <;> (try simp only [hc,bs, ↓reduceIte]at h) <;> try simp only [hc]
 | (with_reducible refine aL hQ ?_;(try cases h);simp only [aE,aF,dj,dk,go_sem,hD,hF,hJ,hP,c1,w3];try exact la)
 | (cases h;done))
    refine dM 1 0 (IH (rest,k+1,cU y c) ⟨g2,h,by dsimp only;omega,a1⟩ (Nat.lt_succ_self _))
   ·have c1:decide (c≤20000)=false:=by simp;omega
    rw [if_neg hc]at h
    repeat' (first
 | simp only [go_sem,hD,hF,hJ,hP,c1]
 | (with_reducible first | refine cq fun hc=> ?_ | refine cr fun hc=> ?_ | refine ct (fun hc=> ?_) fun hc=> ?_) <;> (try simp only [hc,bs, ↓reduceIte]at h) <;> try simp only [hc]
 | (with_reducible refine aL hQ ?_;(try cases h);simp only [aE,aF,dj,dk,go_sem,hD,hF,hJ,hP,c1];try exact la)
 | (cases h;done))
end Go.Abs

/-! Fits1 -/

namespace Go.Abs
set_option maxRecDepth 8000
open Go.Proofs
def bZ:List ax→Int→Int
 | [],n=>n
 | t::l,n=>if n≤20000 then bZ l (bA t n)else n
def e9:List Ar→Int→Int
 | [],n=>n
 | a::l,n=>if n≤20000 then e9 l (bA a.name (cU a.x n))else n
def gq:List Pm→Int→Int
 | [],n=>n
 | a::l,n=>if n≤20000 then gq l (bA a.name n)else n
mutual
def mB:Sm→Int→Int
 | ⟨_,_,labels,name,proc,x,_,args,bf,bb⟩,n=>du bb (du bf (e9 args (bA proc (bA name (bZ labels (cU x n))))))
def du:List Sm→Int→Int
 | [],n=>n
 | s::l,n=>if n≤20000 then du l (mB s n)else n
end
theorem GM (s:Sm) (n:Int):mB s n=du s.bb (du s.bf (e9 s.args (bA s.proc (bA s.name (bZ s.labels (cU s.x n)))))):=by cases s;simp only [mB]
def nX (f:Pc) (n:Int):Int:=du f.body (gq f.params (bZ f.fin (bZ f.vars (bA f.name n))))
def jy:List Pc→Int→Int
 | [],n=>n
 | f::l,n=>if n≤20000 then jy l (nX f n)else n
def Pg.tW (p:Pg):Int:=jy p.procs (bZ p.globals 0)
theorem gK : ∀ (l:List ax) {n:Int},0≤n→n≤20001→bZ l n≤20001∧n≤bZ l n∧(bZ l n≤20000→n+l.length≤bZ l n∧∀ t∈l,t.length<4611686018427387904)
 | [],n,h0,h1=>by simp only [bZ];exact⟨h1,Int.le_refl _,fun _=>⟨by simp,by simp⟩⟩
 | t::l,n,h0,h1=>by
  simp only [bZ]
  split
  ·rename_i hc
   obtain⟨a1,a2,a3,a4⟩:=iP (t:=t) h0
   obtain⟨b1,b2,b3⟩:=gK l (n:=bA t n) a3 a1
   have:=a2 hc
   refine⟨b1,by omega,fun hw=> ?_⟩
   obtain⟨c1,c2⟩:=b3 hw
   have:=a4 (by omega)
   refine⟨by simp only [List.length_cons];omega,fun s m=> ?_⟩
   rcases List.mem_cons.1 m with rfl | m
   ·omega
   ·exact c2 s m
  ·exact⟨h1,Int.le_refl _,fun hw=>by omega⟩
theorem rN : ∀ (l:List Pm) {n:Int},0≤n→n≤20001→gq l n≤20001∧n≤gq l n∧(gq l n≤20000→n+l.length≤gq l n∧∀ t∈l,t.name.length<4611686018427387904)
 | [],n,h0,h1=>by simp only [gq];exact⟨h1,Int.le_refl _,fun _=>⟨by simp,by simp⟩⟩
 | t::l,n,h0,h1=>by
  simp only [gq]
  split
  ·rename_i hc
   obtain⟨a1,a2,a3,a4⟩:=iP (t:=t.name) h0
   obtain⟨b1,b2,b3⟩:=rN l (n:=bA t.name n) a3 a1
   have:=a2 hc
   refine⟨b1,by omega,fun hw=> ?_⟩
   obtain⟨c1,c2⟩:=b3 hw
   have:=a4 (by omega)
   refine⟨by simp only [List.length_cons];omega,fun s m=> ?_⟩
   rcases List.mem_cons.1 m with rfl | m
   ·omega
   ·exact c2 s m
  ·exact⟨h1,Int.le_refl _,fun hw=>by omega⟩
theorem rO : ∀ (l:List Ar) {n:Int},0≤n→n≤20001→e9 l n≤20001∧n≤e9 l n∧
 (e9 l n≤20000→(Ar.aT l:Int)≤2*(e9 l n - n)∧∀ a∈l,a.x.size<4611686018427387904∧a.x.texts∧a.name.length<4611686018427387904)
 | [],n,h0,h1=>by simp only [e9];exact⟨h1,Int.le_refl _,fun _=>⟨by simp [Ar.aT],by simp⟩⟩
 | a::l,n,h0,h1=>by
  simp only [e9]
  split
  ·rename_i hc
   obtain⟨a1,a2,a3,a4⟩:=pw _ a.x (Nat.le_refl _) n h0
   obtain⟨e1,e2,e3,e4⟩:=iP (t:=a.name) a3
   obtain⟨b1,b2,b3⟩:=rO l (n:=bA a.name (cU a.x n)) e3 e1
   have:=a2 hc
   have:cU a.x n≤bA a.name (cU a.x n):=by
    by_cases h:cU a.x n≤20000
    ·have:=e2 h;omega
    ·have:bA a.name (cU a.x n)=20001:=by unfold bA;rw [if_pos (by omega)]
     omega
   refine⟨b1,by omega,fun hw=> ?_⟩
   obtain⟨c1,c2⟩:=b3 hw
   have:=e4 (by omega)
   obtain⟨d1,d2⟩:=a4 (by omega)
   refine⟨by simp only [Ar.aT];omega,fun s m=> ?_⟩
   rcases List.mem_cons.1 m with rfl | m
   ·exact⟨by omega,d2,by omega⟩
   ·exact c2 s m
  ·exact⟨h1,Int.le_refl _,fun hw=>by omega⟩
theorem gP {t:ax} {n:Int} (h0:0≤n) (h1:n≤20001):n≤bA t n∧bA t n≤20001∧(bA t n≤20000→n+1≤bA t n∧t.length<4611686018427387904):=by
 obtain⟨e1,e2,e3,e4⟩:=iP (t:=t) h0
 by_cases h:n≤20000
 ·have:=e2 h
  exact⟨by omega,e1,fun hw=>⟨by omega,by have:=e4 hw;omega⟩⟩
 ·have:bA t n=20001:=by unfold bA;rw [if_pos (by omega)]
  exact⟨by omega,e1,fun hw=>by omega⟩
mutual
theorem ym : ∀ (s:Sm) {n:Int},0≤n→n≤20000→mB s n≤20001∧n+1≤mB s n∧(mB s n≤20000→(s.size:Int)+1≤2*(mB s n - n)∧s.p6)
 | ⟨id,kind,labels,name,proc,x,has,args,bf,bb⟩,n,h0,h1=>by
  obtain⟨a1,a2,a3,a4⟩:=pw _ x (Nat.le_refl _) n h0
  have a2:=a2 h1
  obtain⟨b1,b2,b3⟩:=gK labels a3 a1
  obtain⟨c1,c2,c3⟩:=gP (t:=name) (n:=bZ labels (cU x n)) (by omega) b1
  obtain⟨d1,d2,d3⟩:=gP (t:=proc) (n:=bA name (bZ labels (cU x n))) (by omega) c2
  obtain⟨e1,e2,e3⟩:=rO args (n:=bA proc (bA name (bZ labels (cU x n)))) (by omega) d2
  obtain⟨f1,f2,f3⟩:=mC bf (n:=e9 args (bA proc (bA name (bZ labels (cU x n))))) (by omega) e1
  obtain⟨g1,g2,g3⟩:=mC bb (n:=du bf (e9 args (bA proc (bA name (bZ labels (cU x n)))))) (by omega) f1
  simp only [mB,Sm.size]
  refine⟨g1,by omega,fun hw=> ?_⟩
  obtain⟨g4,g5⟩:=g3 hw
  obtain⟨f4,f5⟩:=f3 (by omega)
  obtain⟨e4,e5⟩:=e3 (by omega)
  obtain⟨d4,d5⟩:=d3 (by omega)
  obtain⟨c4,c5⟩:=c3 (by omega)
  obtain⟨b4,b5⟩:=b3 (by omega)
  obtain⟨a5,a6⟩:=a4 (by omega)
  have:=Ar.dt args
  refine⟨by omega, ?_⟩
  rw [vb]
  exact⟨⟨b5,by dsimp only;omega,c5,d5,by dsimp only;omega,a6,by dsimp only;omega,e5⟩,f5,g5⟩
theorem mC : ∀ (l:List Sm) {n:Int},0≤n→n≤20001→du l n≤20001∧n≤du l n∧(du l n≤20000→(Sm.aT l:Int)≤2*(du l n - n)∧Sm.gn l)
 | [],n,h0,h1=>by simp only [du];exact⟨h1,Int.le_refl _,fun _=>⟨by simp [Sm.aT],by simp only [Sm.gn]⟩⟩
 | s::l,n,h0,h1=>by
  simp only [du]
  split
  ·rename_i hc
   obtain⟨a1,a2,a3⟩:=ym s h0 hc
   obtain⟨b1,b2,b3⟩:=mC l (n:=mB s n) (by omega) a1
   refine⟨b1,by omega,fun hw=> ?_⟩
   obtain⟨c1,c2⟩:=b3 hw
   obtain⟨d1,d2⟩:=a3 (by omega)
   exact⟨by simp only [Sm.aT];omega,d2,c2⟩
  ·exact⟨h1,Int.le_refl _,fun hw=>by omega⟩
end
theorem yn (f:Pc) {n:Int} (h0:0≤n) (h1:n≤20000):nX f n≤20001∧n+1≤nX f n∧(nX f n≤20000→(f.size:Int)+1≤2*(nX f n - n)∧
 (f.name.length<4611686018427387904∧(∀ t∈f.vars,t.length<4611686018427387904)∧(∀ t∈f.fin,t.length<4611686018427387904)∧∀ a∈f.params,a.name.length<4611686018427387904)∧Sm.gn f.body):=by
 obtain⟨c1,c2,c3⟩:=gP (t:=f.name) h0 (by omega:n≤20001)
 have c4:=(iP (t:=f.name) h0).2.1 h1
 obtain⟨d1,d2,d3⟩:=gK f.vars (n:=bA f.name n) (by omega) c2
 obtain⟨e1,e2,e3⟩:=gK f.fin (n:=bZ f.vars (bA f.name n)) (by omega) d1
 obtain⟨g1,g2,g3⟩:=rN f.params (n:=bZ f.fin (bZ f.vars (bA f.name n))) (by omega) e1
 obtain⟨k1,k2,k3⟩:=mC f.body (n:=gq f.params (bZ f.fin (bZ f.vars (bA f.name n)))) (by omega) g1
 unfold nX Pc.size
 refine⟨k1,by omega,fun hw=> ?_⟩
 obtain⟨k4,k5⟩:=k3 hw
 obtain⟨g4,g5⟩:=g3 (by omega)
 obtain⟨e4,e5⟩:=e3 (by omega)
 obtain⟨d4,d5⟩:=d3 (by omega)
 obtain⟨_,c5⟩:=c3 (by omega)
 exact⟨by omega,⟨c5,d5,e5,g5⟩,k5⟩
theorem wC : ∀ (l:List Pc) {n:Int},0≤n→n≤20001→jy l n≤20001∧n≤jy l n∧(jy l n≤20000→(Pc.aT l:Int)≤2*(jy l n - n)∧∀ f∈l,
 (f.name.length<4611686018427387904∧(∀ t∈f.vars,t.length<4611686018427387904)∧(∀ t∈f.fin,t.length<4611686018427387904)∧∀ a∈f.params,a.name.length<4611686018427387904)∧Sm.gn f.body)
 | [],n,h0,h1=>by simp only [jy];exact⟨h1,Int.le_refl _,fun _=>⟨by simp [Pc.aT],by simp⟩⟩
 | f::l,n,h0,h1=>by
  simp only [jy]
  split
  ·rename_i hc
   obtain⟨a1,a2,a3⟩:=yn f h0 hc
   obtain⟨b1,b2,b3⟩:=wC l (n:=nX f n) (by omega) a1
   refine⟨b1,by omega,fun hw=> ?_⟩
   obtain⟨c1,c2⟩:=b3 hw
   obtain⟨d1,d2⟩:=a3 (by omega)
   refine⟨by simp only [Pc.aT];omega,fun s m=> ?_⟩
   rcases List.mem_cons.1 m with rfl | m
   ·exact d2
   ·exact c2 s m
  ·exact⟨h1,Int.le_refl _,fun hw=>by omega⟩
theorem El {p:Pg} (h:p.tW≤20000):p.size≤40001∧p.yS:=by
 unfold Pg.tW at h
 obtain⟨a1,a2,a3⟩:=gK p.globals (n:=0) (by omega) (by omega)
 obtain⟨b1,b2,b3⟩:=wC p.procs (n:=bZ p.globals 0) (by omega) a1
 obtain⟨c1,c2⟩:=b3 h
 obtain⟨d1,d2⟩:=a3 (by omega)
 have:p.size≤40001:=by unfold Pg.size;omega
 exact⟨this,by omega,d2,fun f m=>(c2 f m).1,fun f m=>(c2 f m).2⟩
theorem qd {l:List ax} {n:Int} (h0:0≤n) (h1:n≤20001) (s:St):aH Try.prog fJ [.slice .shared 1 (l.map encStr), .int .i64 n] s (.int .i64 (bZ l n)) s:=by
 refine aH.pure ?_ (by simp [D.bG,D.ok,er,Tag.ok]) rfl s
 unfold S0
 generalize h:bZ l n=p
 refine aH.go sm rfl fun B Q hB hQ=> ?_
 have⟨hD,hF,hJ,hP⟩:=cf
 repeat' (first
 | simp only [go_sem,hD,hF,hJ,hP]
 | (with_reducible refine aL hQ ?_;simp only [aE,aF,Option.some.injEq,exists_eq_left',go_sem,hD,hF,hJ,hP];repeat' (first | exact Ok.out | with_reducible refine aV ?_ ?_ | (simp;done))))
 refine dM 0 0 (bx.ind (ι:=List ax×Nat×Int) (fun i=>l.drop i.2.1=i.1∧bZ i.1 i.2.2=p∧(i.2.1:Int)≤i.2.2∧i.2.2≤20001) (fun i=>i.1.length)
  (fun i=> [(0, .slice .shared 1 (l.map encStr)),(1, .int .i64 i.2.2),(5, .int .i64 (i.2.1:Int))]) (fun i=>⟨[],[]⟩) ?_ (l,0,n) ⟨rfl,h,h0,h1⟩)
 rintro⟨rest,k,c⟩ ⟨g1,h,g3,g4⟩ IH
 dsimp only at g1 h g3 g4
 cases rest with
 | nil=>
  have hD:=drop_nil g1
  simp only [bZ]at h
  subst h
  repeat' (first
 | simp only [go_sem,hD,hF,hJ,hP]
 | (with_reducible refine aL hQ ?_;simp only [aE,aF,Option.some.injEq,exists_eq_left',go_sem,hD,hF,hJ,hP];repeat' (first | exact Ok.out | with_reducible refine aV ?_ ?_ | (simp;done))))
 | cons y rest=>
  obtain⟨hF,g2,hD,g5⟩:=drop_cons g1
  simp only [bZ]at h
  by_cases hc:c≤20000
  ·have c1:decide (c≤20000)=true:=by simp;omega
   have hy:=fun s=>lM y (n:=c) (by omega) g4 s
   obtain⟨a1,a2,a3,a4⟩:=iP (t:=y) (n:=c) (by omega)
   have:=a2 hc
   have w3:IntKind.wrap .i64 ((k:Int)+1)=((k+1:Nat):Int):=by rw [dg] <;> omega
   rw [if_pos hc]at h
   repeat' (first
 | simp only [go_sem,hD,hF,hJ,hP,c1,w3]
 | (with_reducible refine CU (hy _) ?_)
 | (with_reducible refine aL hQ ?_;simp only [aE,aF,Option.some.injEq,exists_eq_left',go_sem,hD,hF,hJ,hP];repeat' (first | exact Ok.out | with_reducible refine aV ?_ ?_ | (simp;done))))
   refine dM 0 0 (IH (rest,k+1,bA y c) ⟨g2,h,by dsimp only;omega,a1⟩ (Nat.lt_succ_self _))
  ·have c1:decide (c≤20000)=false:=by simp;omega
   rw [if_neg hc]at h
   subst h
   repeat' (first
 | simp only [go_sem,hD,hF,hJ,hP,c1]
 | (with_reducible refine aL hQ ?_;simp only [aE,aF,Option.some.injEq,exists_eq_left',go_sem,hD,hF,hJ,hP];repeat' (first | exact Ok.out | with_reducible refine aV ?_ ?_ | (simp;done))))
theorem GN : ∀ (m:Nat) (l:List Sm),Sm.aT l≤m→∀ {n:Int},0≤n→n≤20001→∀ s:St,aH Try.prog gD [.slice .shared 13 (l.map bl), .int .i64 n] s (.int .i64 (du l n)) s:=by
 intro m
 induction m with
 | zero=>
  intro l h n h0 h1 s
  cases l with
  | nil=>
   have z:decide ((0:Int)<0)=false:=rfl
   refine aH.pure ?_ (by simp [D.bG,D.ok,D.ik,Tag.ok]) rfl s
   unfold S0
   simp only [du]
   refine aH.go mP rfl fun B Q hB hQ=> ?_
   have⟨hD,hF,hJ,hP⟩:=cf
   repeat' (first
 | simp only [go_sem,hD,hF,hJ,hP,z]
 | (with_reducible refine bx.yL ?_)
 | (with_reducible refine aL hQ ?_;simp only [aE,aF,Option.some.injEq,exists_eq_left',go_sem,hD,hF,hJ,hP];repeat' (first | exact Ok.out | with_reducible refine aV ?_ ?_ | (simp;done))))
  | cons s l=>simp only [Sm.aT]at h;omega
 | succ m ih=>
  intro l h n h0 h1 s
  refine aH.pure ?_ (by simp [D.bG,D.ok,rq,Tag.ok]) rfl s
  unfold S0
  generalize hp:du l n=p
  refine aH.go mP rfl fun B Q hB hQ=> ?_
  have⟨hD,hF,hJ,hP⟩:=cf
  repeat' (first
 | simp only [go_sem,hD,hF,hJ,hP]
 | (with_reducible refine aL hQ ?_;simp only [aE,aF,Option.some.injEq,exists_eq_left',go_sem,hD,hF,hJ,hP];repeat' (first | exact Ok.out | with_reducible refine aV ?_ ?_ | (simp;done))))
  refine dM 0 0 (bx.ind (ι:=List Sm×Nat×Int) (fun i=>l.drop i.2.1=i.1∧du i.1 i.2.2=p∧(i.2.1:Int)≤i.2.2∧i.2.2≤20001) (fun i=>i.1.length)
   (fun i=> [(0, .slice .shared 13 (l.map bl)),(1, .int .i64 i.2.2),(5, .int .i64 (i.2.1:Int))]) (fun i=>⟨[],[]⟩) ?_ (l,0,n) ⟨rfl,hp,h0,h1⟩)
  rintro⟨rest,k,c⟩ ⟨g1,hp,g3,g4⟩ IH
  dsimp only at g1 hp g3 g4
  cases rest with
  | nil=>
   have hD:=drop_nil g1
   simp only [du]at hp
   subst hp
   repeat' (first
 | simp only [go_sem,hD,hF,hJ,hP]
 | (with_reducible refine aL hQ ?_;simp only [aE,aF,Option.some.injEq,exists_eq_left',go_sem,hD,hF,hJ,hP];repeat' (first | exact Ok.out | with_reducible refine aV ?_ ?_ | (simp;done))))
  | cons y rest=>
   obtain⟨hF,g2,hD,g5⟩:=drop_cons g1
   simp only [du]at hp
   by_cases hc:c≤20000
   ·have c1:decide (c≤20000)=true:=by simp;omega
    have kb:=List.mem_of_getElem? hF
    have dr:=Sm.b8 kb
    have R3:s.al.length≤s.al.length∧Sm.aT y.bf<y.size∧Sm.aT y.bb<y.size:=by cases y;simp only [Sm.size];omega
    have w3:IntKind.wrap .i64 ((k:Int)+1)=((k+1:Nat):Int):=by rw [dg] <;> omega
    rw [if_pos hc]at hp
    obtain⟨a1,a2,a3,a4⟩:=pw _ y.x (Nat.le_refl _) c (by omega)
    have a2:=a2 hc
    obtain⟨b1,b2,b3⟩:=gK y.labels a3 a1
    obtain⟨YX,c2,c3⟩:=gP (t:=y.name) (n:=bZ y.labels (cU y.x c)) (by omega) b1
    obtain⟨d1,d2,d3⟩:=gP (t:=y.proc) (n:=bA y.name (bZ y.labels (cU y.x c))) (by omega) c2
    have eE:=fun s=>AG _ y.x (Nat.le_refl _) (n:=c) (by omega) hc s
    have eL:=fun s=>qd (l:=y.labels) (n:=cU y.x c) (by omega) a1 s
    have eN:=fun s=>lM y.name (n:=bZ y.labels (cU y.x c)) (by omega) b1 s
    have eP:=fun s=>lM y.proc (n:=bA y.name (bZ y.labels (cU y.x c))) (by omega) c2 s
    obtain⟨r1,r2,r3⟩:=ym y (n:=c) (by omega) hc
    rw [GM]at hp r1 r2
    generalize hC:bA y.proc (bA y.name (bZ y.labels (cU y.x c)))=C at *
    obtain⟨s1,s2,s3⟩:=rO y.args (n:=C) (by omega) d2
    obtain⟨t1,t2,t3⟩:=mC y.bf (n:=e9 y.args C) (by omega) s1
    have eT:=fun s=>ih y.bf (by omega) (n:=e9 y.args C) (by omega) s1 s
    have eS:=fun s=>ih y.bb (by omega) (n:=du y.bf (e9 y.args C)) (by omega) t1 s
    generalize hW:e9 y.args C=W at *
    repeat' (first
 | simp only [go_sem,hD,hF,hJ,hP,c1,w3]
 | (with_reducible refine CU (eE _) ?_)
 | (with_reducible refine CU (eL _) ?_)
 | (with_reducible refine CU (eN _) ?_)
 | (with_reducible refine CU (eP _) ?_)
 | (with_reducible refine aL hQ ?_;simp only [aE,aF,Option.some.injEq,exists_eq_left',go_sem,hD,hF,hJ,hP];repeat' (first | exact Ok.out | with_reducible refine aV ?_ ?_ | (simp;done))))
    refine dM 1 0 (bx.ind (ι:=List Ar×Nat×Int) (fun i=>y.args.drop i.2.1=i.1∧e9 i.1 i.2.2=W∧(i.2.1:Int)≤i.2.2∧i.2.2≤20001) (fun i=>i.1.length)
     (fun i=> [(0, .slice .shared 13 (l.map bl)),(1, .int .i64 i.2.2),(5, .int .i64 (k:Int)),(6, .ptr 0 0),(7, .int .i64 (i.2.1:Int))]) (fun i=>⟨[bl y],[]⟩) ?_ (y.args,0,C) ⟨rfl,hW,by dsimp only;omega,d2⟩)
    rintro⟨Oa,j,e⟩ ⟨k1,hw,k3,k4⟩ Ag
    dsimp only at k1 hw k3 k4
    cases Oa with
    | nil=>
     have hD:=drop_nil k1
     simp only [e9]at hw
     subst hw
     repeat' (first
 | simp only [go_sem,hD,hF,hJ,hP,w3]
 | (with_reducible refine CU (eT _) ?_)
 | (with_reducible refine CU (eS _) ?_)
 | (with_reducible refine aL hQ ?_;simp only [aE,aF,Option.some.injEq,exists_eq_left',go_sem,hD,hF,hJ,hP];repeat' (first | exact Ok.out | with_reducible refine aV ?_ ?_ | (simp;done))))
     refine dM 0 0 (IH (rest,k+1,du y.bb (du y.bf e)) ⟨g2,hp,by dsimp only;omega,r1⟩ (Nat.lt_succ_self _))
    | cons a Oa=>
     obtain⟨hF,k2,hD,k5⟩:=drop_cons k1
     simp only [e9]at hw
     by_cases he:e≤20000
     ·have e1:decide (e≤20000)=true:=by simp;omega
      have w4:IntKind.wrap .i64 ((j:Int)+1)=((j+1:Nat):Int):=by rw [dg] <;> omega
      rw [if_pos he]at hw
      obtain⟨u1,u2,u3,u4⟩:=pw _ a.x (Nat.le_refl _) e (by omega)
      have u2:=u2 he
      obtain⟨v1,v2,v3⟩:=gP (t:=a.name) (n:=cU a.x e) u3 u1
      have eX:=fun s=>AG _ a.x (Nat.le_refl _) (n:=e) (by omega) he s
      have eM:=fun s=>lM a.name (n:=cU a.x e) u3 u1 s
      repeat' (first
 | simp only [go_sem,hD,hF,hJ,hP,e1,w4]
 | (with_reducible refine CU (eX _) ?_)
 | (with_reducible refine CU (eM _) ?_)
 | (with_reducible refine aL hQ ?_;simp only [aE,aF,Option.some.injEq,exists_eq_left',go_sem,hD,hF,hJ,hP];repeat' (first | exact Ok.out | with_reducible refine aV ?_ ?_ | (simp;done))))
      refine dM 1 0 (Ag (Oa,j+1,bA a.name (cU a.x e)) ⟨k2,hw,by dsimp only;omega,v2⟩ (Nat.lt_succ_self _))
     ·have e1:decide (e≤20000)=false:=by simp;omega
      rw [if_neg he]at hw
      subst hw
      repeat' (first
 | simp only [go_sem,hD,hF,hJ,hP,e1,w3]
 | (with_reducible refine CU (eT _) ?_)
 | (with_reducible refine CU (eS _) ?_)
 | (with_reducible refine aL hQ ?_;simp only [aE,aF,Option.some.injEq,exists_eq_left',go_sem,hD,hF,hJ,hP];repeat' (first | exact Ok.out | with_reducible refine aV ?_ ?_ | (simp;done))))
      refine dM 0 0 (IH (rest,k+1,du y.bb (du y.bf e)) ⟨g2,hp,by dsimp only;omega,r1⟩ (Nat.lt_succ_self _))
   ·have c1:decide (c≤20000)=false:=by simp;omega
    rw [if_neg hc]at hp
    subst hp
    repeat' (first
 | simp only [go_sem,hD,hF,hJ,hP,c1]
 | (with_reducible refine aL hQ ?_;simp only [aE,aF,Option.some.injEq,exists_eq_left',go_sem,hD,hF,hJ,hP];repeat' (first | exact Ok.out | with_reducible refine aV ?_ ?_ | (simp;done))))
end Go.Abs

/-! Fits2 -/

namespace Go.Abs
set_option maxRecDepth 8000
open Go.Proofs
theorem Oc (p:Pg) (s:St):aH Try.prog qq [.agg (b7 p)] s (.bool (decide (p.tW≤20000))) s:=by
 refine aH.pure ?_ (by simp only [D.bG,D.ok,lG];rfl) rfl s
 unfold S0
 generalize hp:p.tW=W
 unfold Pg.tW at hp
 obtain⟨a1,a2,a3⟩:=gK p.globals (n:=0) (by omega) (by omega)
 have eG:=fun s=>qd (l:=p.globals) (n:=0) (by omega) (by omega) s
 refine aH.go yv rfl fun B Q hB hQ=> ?_
 have⟨hD,hF,hJ,hP⟩:=cf
 repeat' (first
 | simp only [go_sem,hD,hF,hJ,hP]
 | (with_reducible refine CU (eG _) ?_)
 | (with_reducible refine aL hQ ?_;simp only [aE,aF,dj,dk,go_sem,hD,hF,hJ,hP];repeat' (first | exact Ok.out | with_reducible refine aV ?_ ?_ | (simp;done))))
 refine dM 1 0 (bx.ind (ι:=List Pc×Nat×Int) (fun i=>p.procs.drop i.2.1=i.1∧jy i.1 i.2.2=W∧(i.2.1:Int)≤i.2.2∧i.2.2≤20001) (fun i=>i.1.length)
  (fun i=> [(1, .ptr 0 0),(3, .int .i64 i.2.2),(4, .int .i64 (i.2.1:Int))]) (fun i=>⟨[b7 p],[]⟩) ?_ (p.procs,0,bZ p.globals 0) ⟨rfl,hp,a2,a1⟩)
 rintro⟨rest,k,c⟩ ⟨g1,hp,g3,g4⟩ IH
 dsimp only at g1 hp g3 g4
 cases rest with
 | nil=>
  have hD:=drop_nil g1
  simp only [jy]at hp
  subst hp
  repeat' (first
 | simp only [go_sem,hD,hF,hJ,hP]
 | (with_reducible refine aL hQ ?_;simp only [aE,aF,dj,dk,go_sem,hD,hF,hJ,hP];repeat' (first | exact Ok.out | with_reducible refine aV ?_ ?_ | (simp;done))))
 | cons f rest=>
  obtain⟨hF,g2,hD,g5⟩:=drop_cons g1
  simp only [jy]at hp
  by_cases hc:c≤20000
  ·have c1:decide (c≤20000)=true:=by simp;omega
   have w3:IntKind.wrap .i64 ((k:Int)+1)=((k+1:Nat):Int):=by rw [dg] <;> omega
   rw [if_pos hc]at hp
   obtain⟨r1,r2,r3⟩:=yn f (n:=c) (by omega) hc
   unfold nX at hp r1 r2
   obtain⟨YX,c2,c3⟩:=gP (t:=f.name) (n:=c) (by omega) g4
   obtain⟨d1,d2,d3⟩:=gK f.vars (n:=bA f.name c) (by omega) c2
   obtain⟨e1,e2,e3⟩:=gK f.fin (n:=bZ f.vars (bA f.name c)) (by omega) d1
   have eN:=fun s=>lM f.name (n:=c) (by omega) g4 s
   have eV:=fun s=>qd (l:=f.vars) (n:=bA f.name c) (by omega) c2 s
   have eF:=fun s=>qd (l:=f.fin) (n:=bZ f.vars (bA f.name c)) (by omega) d1 s
   generalize hC:bZ f.fin (bZ f.vars (bA f.name c))=C at *
   obtain⟨s1,s2,s3⟩:=rN f.params (n:=C) (by omega) e1
   have eT:=fun s=>GN _ f.body (Nat.le_refl _) (n:=gq f.params C) (by omega) s1 s
   generalize hM:gq f.params C=M at *
   repeat' (first
 | simp only [go_sem,hD,hF,hJ,hP,c1,w3]
 | (with_reducible refine CU (eN _) ?_)
 | (with_reducible refine CU (eV _) ?_)
 | (with_reducible refine CU (eF _) ?_)
 | (with_reducible refine aL hQ ?_;simp only [aE,aF,dj,dk,go_sem,hD,hF,hJ,hP];repeat' (first | exact Ok.out | with_reducible refine aV ?_ ?_ | (simp;done))))
   refine dM 2 0 (bx.ind (ι:=List Pm×Nat×Int) (fun i=>f.params.drop i.2.1=i.1∧gq i.1 i.2.2=M∧(i.2.1:Int)≤i.2.2∧i.2.2≤20001) (fun i=>i.1.length)
    (fun i=> [(1, .ptr 0 0),(3, .int .i64 i.2.2),(4, .int .i64 (k:Int)),(5, .ptr 1 0),(6, .int .i64 (i.2.1:Int))]) (fun i=>⟨[b7 p,bP f],[]⟩) ?_ (f.params,0,C) ⟨rfl,hM,by dsimp only;omega,e1⟩)
   rintro⟨ms,j,e⟩ ⟨k1,hw,k3,k4⟩ Ag
   dsimp only at k1 hw k3 k4
   cases ms with
   | nil=>
    have hD:=drop_nil k1
    simp only [gq]at hw
    subst hw
    repeat' (first
 | simp only [go_sem,hD,hF,hJ,hP,w3]
 | (with_reducible refine CU (eT _) ?_)
 | (with_reducible refine aL hQ ?_;simp only [aE,aF,dj,dk,go_sem,hD,hF,hJ,hP];repeat' (first | exact Ok.out | with_reducible refine aV ?_ ?_ | (simp;done))))
    refine dM 1 0 (IH (rest,k+1,du f.body e) ⟨g2,hp,by dsimp only;omega,r1⟩ (Nat.lt_succ_self _))
   | cons a ms=>
    obtain⟨hF,k2,hD,k5⟩:=drop_cons k1
    simp only [gq]at hw
    by_cases he:e≤20000
    ·have e1:decide (e≤20000)=true:=by simp;omega
     have w4:IntKind.wrap .i64 ((j:Int)+1)=((j+1:Nat):Int):=by rw [dg] <;> omega
     rw [if_pos he]at hw
     obtain⟨v1,v2,v3⟩:=gP (t:=a.name) (n:=e) (by omega) k4
     have v4:=(iP (t:=a.name) (n:=e) (by omega)).2.1 he
     have eM:=fun s=>lM a.name (n:=e) (by omega) k4 s
     repeat' (first
 | simp only [go_sem,hD,hF,hJ,hP,e1,w4]
 | (with_reducible refine CU (eM _) ?_)
 | (with_reducible refine aL hQ ?_;simp only [aE,aF,dj,dk,go_sem,hD,hF,hJ,hP];repeat' (first | exact Ok.out | with_reducible refine aV ?_ ?_ | (simp;done))))
     refine dM 2 0 (Ag (ms,j+1,bA a.name e) ⟨k2,hw,by dsimp only;omega,v2⟩ (Nat.lt_succ_self _))
    ·have e1:decide (e≤20000)=false:=by simp;omega
     rw [if_neg he]at hw
     subst hw
     repeat' (first
 | simp only [go_sem,hD,hF,hJ,hP,e1,w3]
 | (with_reducible refine CU (eT _) ?_)
 | (with_reducible first | refine cq fun hc=> ?_ | refine cr fun hc=> ?_ | refine ct (fun hc=> ?_) fun hc=> ?_) <;> (try simp only [hc,bs, ↓reduceIte]at h) <;> try simp only [hc]
 | (with_reducible refine aL hQ ?_;simp only [aE,aF,dj,dk,go_sem,hD,hF,hJ,hP,e1,w3];repeat' (first | exact Ok.out | with_reducible refine aV ?_ ?_ | (simp;done))))
     refine dM 1 0 (IH (rest,k+1,du f.body e) ⟨g2,hp,by dsimp only;omega,r1⟩ (Nat.lt_succ_self _))
  ·have c1:decide (c≤20000)=false:=by simp;omega
   rw [if_neg hc]at hp
   subst hp
   repeat' (first
 | simp only [go_sem,hD,hF,hJ,hP,c1]
 | (with_reducible first | refine cq fun hc=> ?_ | refine cr fun hc=> ?_ | refine ct (fun hc=> ?_) fun hc=> ?_) <;> (try simp only [hc,bs, ↓reduceIte]at h) <;> try simp only [hc]
 | (with_reducible refine aL hQ ?_;simp only [aE,aF,dj,dk,go_sem,hD,hF,hJ,hP,c1];repeat' (first | exact Ok.out | with_reducible refine aV ?_ ?_ | (simp;done))))
end Go.Abs
