/-
  What is proved here: part 2 of the road to the claim (Flat3, Sl1, MirFlat2, Sl2, TMay1, TMay2, RefMay3, RefMay4, TMay3, TMay4, MayFine, MayEq, Nm1, Nm2, Nm3, MayEq2, Tree1, Tree2, Sc1, Sc2, Sc3, ScP, Sc4, Rng, FineM, Sc5, Ar1, Ar2, Ar3, Srt1, Shelf, SortR, SrtP, Tc1, Tc2, Tc3, Bsl, Tc4, Tc5, Tc6, Tc7, Al1).
  No conditions.
-/
import Derived.Test.YthecipohmaannaaAnA1
import Derived.Shelf.Small.Bits
import Derived.Shelf.Strconv.Itoa0
import Derived.Shelf.Sort.Plain
import Derived.Shelf.Slices.Turned
import Derived.Shelf.Slices.CompactS
import Derived.Shelf.Slices.Cells
import Derived.Shelf.Slices.In.SortNone
import Derived.Test.YthecipohmaannaaProg
import Derived.Sort.Walk0

set_option linter.unusedSimpArgs false
set_option linter.unusedVariables false

/-! Flat3 -/

namespace Go.Abs
set_option maxRecDepth 8000
open Go.Proofs
def ix (p:Pg):List D:= [.slice .shared 1 (p.globals.map encStr), .slice .shared 5 (p.procs.map bL), .slice .shared 17 (p.dM.L.map dW), .slice .shared 1 (p.dM.lo.map iS), .slice .shared 1 (p.dM.hi.map iS)]
theorem rN (p:Pg):ix p = [.slice .shared 1 (p.globals.map encStr), .slice .shared 5 (p.procs.map bL), .slice .shared 17 (p.dM.L.map dW), .slice .shared 1 (p.dM.lo.map iS), .slice .shared 1 (p.dM.hi.map iS)]:=nd rfl
theorem xm (p:Pg):D.bI 0 0 (ix p)=true:=by simp [ix,D.bI,D.ok,Tag.ok,fi,zb,zc,tx]
theorem wj (p:Pg):bS p = [.slice .shared 1 (p.globals.map encStr), .slice .shared 5 (p.procs.map bL)]:=nd rfl
theorem Qi {p:Pg} (hs:Pc.aT p.procs<1000000000):aI Try.prog jP [.agg (bS p)] S0 (.ptr 1 0) ⟨[bS p,fA (.slice .shared 1 (p.globals.map encStr)) (.slice .shared 5 (p.procs.map bL)) p.dM.L p.dM.lo p.dM.hi],[some p.dM.L.length,some p.dM.lo.length,some p.dM.hi.length]⟩:=by
 have hlen:p.procs.length<1000000000:=by have:=Pc.cP p.procs;omega
 obtain⟨R,hR⟩ : ∃ R,R=p.dM:=⟨_,rfl⟩
 have Rm:=hR
 unfold Pg.dM at Rm
 unfold S0
 rw [wj, ← hR]
 refine aI.Zi 2 3 (Nat.zero_le _) (Nat.zero_le _) Ap rfl fun B Q hB hQ=> ?_
 have⟨hD,hJ,hP,hY⟩:=cf
 repeat' (first
 | simp only [go_sem,hD,hJ,hP,hY,wj]
 | (with_reducible refine aJ hQ ?_;simp only [az,aB,Option.some.injEq,exists_eq_left',go_sem,hD,hJ,hP,hY];repeat' (first | exact Ok.out | with_reducible refine aO ?_ ?_ | (simp;done))))
 refine bp.HS 1 2 17 rfl rfl ?_
 simp only [go_sem,hD,hJ,hP,hY]
 refine bp.HS 1 3 1 rfl rfl ?_
 simp only [go_sem,hD,hJ,hP,hY]
 refine bp.HS 1 4 1 rfl rfl ?_
 simp only [go_sem,hD,hJ,hP,hY]
 refine dA 2 3 ?_ ?_ (bp.ind (ι:=List Pc×Nat×Sh×Nat×Nat) (fun i=>p.procs.drop i.2.1=i.1∧Sh.go i.2.1 i.2.2.1 i.1=R∧i.2.2.1.L.length+Pc.aT i.1≤Pc.aT p.procs∧i.2.2.1.lo.length=i.2.1∧i.2.2.1.hi.length=i.2.1∧i.2.2.2.1=i.2.2.1.lo.length∧i.2.2.2.2=i.2.2.1.hi.length) (fun i=>i.1.length)
  (fun i=> [(1, .ptr 0 0),(3, .ptr 1 0),(10, .slice .shared 5 (p.procs.map bL)),(11, .int .i64 (p.procs.length:Int)),(12, .int .i64 (i.2.1:Int))]) (fun i=>⟨[[.slice .shared 1 (p.globals.map encStr), .slice .shared 5 (p.procs.map bL)],fA (.slice .shared 1 (p.globals.map encStr)) (.slice .shared 5 (p.procs.map bL)) i.2.2.1.L i.2.2.1.lo i.2.2.1.hi],[some i.2.2.1.L.length,some i.2.2.2.1,some i.2.2.2.2]⟩) ?_ (p.procs,0,⟨[],[],[]⟩,0,0) ⟨rfl,Rm.symm,by simp,rfl,rfl,rfl,rfl⟩)
 ·(simp only [go_sem,hD,hJ,hP,hY,fA];try exact bw)
 ·(simp only [go_sem,hD,hJ,hP,hY,fA];try exact bw)
 rintro⟨rest,k,h,n1,n2⟩ ⟨h1,h2,h3,h4,h5,h6,h7⟩ IH
 dsimp only at h1 h2 h3 h4 h5 h6 h7
 subst h6 h7
 cases rest with
 | nil=>
  have hD:=drop_nil h1
  simp only [Sh.go]at h2
  rw [← h2]at hQ
  repeat' (first
 | simp only [go_sem,hD,hJ,hP,hY,fA]
 | (with_reducible refine aJ hQ ?_;simp only [az,aB,Option.some.injEq,exists_eq_left',go_sem,hD,hJ,hP,hY];repeat' (first | exact Ok.out | with_reducible refine aO ?_ ?_ | (simp;done))))
 | cons f rest=>
  obtain⟨hJ,g2,hD,g4⟩:=drop_cons h1
  have bB:k<4611686018427387904:=by omega
  simp only [Pc.aT,Pc.size]at h3
  simp only [Sh.go]at h2
  have c1:=kS f.body
  have hP:(h.lo.length+1)*9≤bH:=by unfold bH;omega
  have S1:(h.hi.length+1)*9≤bH:=by unfold bH;omega
  have B3:IntKind.wrap .i64 ((h.L.length:Int)+1)=(h.L.length:Int)+1:=dt (by omega) (by omega)
  have hl:(Im.rows (k:Int) 0 (-1) 0 h.L f.body).length=h.L.length+Sm.fW f.body:=eI ..
  have qd:IntKind.wrap .i64 (((Im.rows (k:Int) 0 (-1) 0 h.L f.body).length:Int)+1)=((Im.rows (k:Int) 0 (-1) 0 h.L f.body).length:Int)+1:=dt (by omega) (by omega)
  have hr:=fun {s:St} {o:Nat}=>@LG (Sm.aT f.body+1) (by omega) f.body (k:Int) 0 (-1) 0 h.L (.slice .shared 1 (p.globals.map encStr)) (.slice .shared 5 (p.procs.map bL)) (h.lo++ [(h.L.length:Int)+1]) h.hi (some (h.lo.length+1)) (some h.hi.length) (Nat.lt_succ_self _) (by omega) (by simp [D.ok,Tag.ok,fi]) (by simp [D.ok,Tag.ok,zb]) s o
  simp only [fA,List.map_append,List.map_cons,List.map_nil,iS]at hr
  repeat' (first
 | simp only [go_sem,hD,hJ,hP,hY,B3,qd,S1,fA]
 | (with_reducible refine CU (hr (by with_unfolding_all rfl) (by with_unfolding_all rfl)) ?_)
 | (with_reducible refine aJ hQ ?_;simp only [az,aB,Option.some.injEq,exists_eq_left',go_sem,hD,hJ,hP,hY];repeat' (first | exact Ok.out | with_reducible refine aO ?_ ?_ | (simp;done))))
  refine dA 2 3 ?_ ?_ (IH (rest,k+1,⟨Im.rows (k:Int) 0 (-1) 0 h.L f.body,h.lo++ [(h.L.length:Int)+1],h.hi++ [((Im.rows (k:Int) 0 (-1) 0 h.L f.body).length:Int)+1]⟩,_,_) ⟨g2,h2,by dsimp only;rw [hl];omega,by simp [h4],by simp [h5],by simp,by simp⟩ (Nat.lt_succ_self _))
  ·(simp only [go_sem,hD,hJ,hP,hY,fA,aH bB,List.map_append,List.map_cons,List.map_nil,iS];try exact bw)
  ·(simp only [go_sem,hD,hJ,hP,hY,fA,aH bB,List.map_append,List.map_cons,List.map_nil,iS];try exact bw)
theorem ze {p:Pg} (hs:Pc.aT p.procs<1000000000) (s:St):aI Try.prog jP [.agg (bS p)] s (.cL (ix p) 0) s:=by
 refine aI.pure ?_ (by simp only [D.bI,D.ok,km];rfl) (by simp only [D.ok,xm]) s
 have h:=(Qi hs).sK (n:=0) (m:=0) rfl (Nat.le_refl _) (Nat.zero_le _) (Nat.le_refl _)
 simpa [D.fh,D.fg,Tag.fg,F5,Kk,Kt,Gf,St.cut,ix,S0]using h
end Go.Abs

/-! Sl1 -/

namespace Go.Abs
set_option maxRecDepth 8000
open Go.Proofs
def kq (x:aD) (k:Int):List aD→Int
 | []=> -1
 | s::l=>if x==s then k else kq x (k+1) l
def eg (l:List aD) (x:aD):Bool:=decide (kq x 0 l≥0)
def jb {α:Type} (b:α→Bool) (k:Int):List α→Int
 | []=> -1
 | s::l=>if b s then k else jb b (k+1) l
theorem B4 (x:aD) : ∀ (l:List aD) (k:Int),0≤k→(kq x k l≥0↔x∈l)
 | [],k,h=>by simp [kq]
 | s::l,k,h=>by
  by_cases e:x=s
  ·simp [kq,e];omega
  ·have e':(x==s)=false:=by simp [e]
   simp only [kq,e',Bool.false_eq_true,if_false,List.mem_cons,e,false_or]
   exact B4 x l (k+1) (by omega)
theorem kW (l:List aD) (x:aD):eg l x=true↔x∈l:=by
 simp only [eg,decide_eq_true_eq];exact B4 x l 0 (Int.le_refl 0)
theorem xn {α:Type} (b:α→Bool) : ∀ (l:List α) (k:Int),0≤k→(jb b k l≥0↔l.any b=true)
 | [],k,h=>by simp [jb]
 | s::l,k,h=>by
  by_cases e:b s=true
  ·simp [jb,e];omega
  ·have e':b s=false:=by simpa using e
   simp only [jb,e',Bool.false_eq_true,if_false,List.any_cons,Bool.or_eq_true,false_or]
   exact xn b l (k+1) (by omega)
theorem B5 {l:List aD} (hl:l.length<4611686018427387904) (x:aD) (s:St):aI Try.prog fI [.slice .shared 1 (l.map encStr), .str x] s (.int .i64 (kq x 0 l)) s:=by
 refine aI.pure ?_ (by simp [D.bI,D.ok,Tag.ok,fi]) rfl s
 generalize h:kq x 0 l=p
 unfold S0
 refine aI.go pK rfl fun B Q hB hQ=> ?_
 have⟨hD,hJ,hP,hY⟩:=cf
 repeat' (first
 | simp only [go_sem,hD,hJ,hP,hY]
 | (with_reducible first | refine cD fun hc=> ?_ | refine cE fun hc=> ?_ | refine cG (fun hc=> ?_) fun hc=> ?_) <;> (try simp only [hc,bs, ↓reduceIte]at h) <;> try simp only [hc]
 | (with_reducible refine aJ hQ ?_;(try cases h);simp only [az,aB,dv,dw,go_sem,hD,hJ,hP,hY];repeat' (first | exact Ok.out | with_reducible refine aO ?_ ?_ | (simp;done))))
 refine dF 0 0 (bp.ind (ι:=List aD×Nat) (fun i=>l.drop i.2=i.1∧kq x (i.2:Int) i.1=p) (fun i=>i.1.length)
  (fun i=> [(0, .slice .shared 1 (l.map encStr)),(1, .str x),(7, .int .i64 (l.length:Int)),(8, .int .i64 (i.2:Int))]) (fun i=>⟨[],[]⟩) ?_ (l,0) ⟨rfl,h⟩)
 rintro⟨rest,k⟩ ⟨h1,h⟩ IH
 dsimp only at h1 h
 cases rest with
 | nil=>
  have hD:=drop_nil h1
  simp only [kq]at h
  repeat' (first
 | simp only [go_sem,hD,hJ,hP,hY]
 | (with_reducible first | refine cD fun hc=> ?_ | refine cE fun hc=> ?_ | refine cG (fun hc=> ?_) fun hc=> ?_) <;> (try simp only [hc,bs, ↓reduceIte]at h) <;> try simp only [hc]
 | (with_reducible refine aJ hQ ?_;(try cases h);simp only [az,aB,dv,dw,go_sem,hD,hJ,hP,hY];repeat' (first | exact Ok.out | with_reducible refine aO ?_ ?_ | (simp;done))))
 | cons a rest=>
  obtain⟨hJ,g2,hD,g4⟩:=drop_cons h1
  have bB:k<4611686018427387904:=by omega
  simp only [kq]at h
  repeat' (first
 | simp only [go_sem,hD,hJ,hP,hY]
 | (with_reducible first | refine cD fun hc=> ?_ | refine cE fun hc=> ?_ | refine cG (fun hc=> ?_) fun hc=> ?_) <;> (try simp only [hc,bs, ↓reduceIte]at h) <;> try simp only [hc]
 | (with_reducible refine aJ hQ ?_;(try cases h);simp only [az,aB,dv,dw,go_sem,hD,hJ,hP,hY];repeat' (first | exact Ok.out | with_reducible refine aO ?_ ?_ | (simp;done))))
  refine dA 0 0 ?_ ?_ (IH (rest,k+1) ⟨g2,h⟩ (Nat.lt_succ_self _))
  ·(simp only [go_sem,hD,hJ,hP,hY,aH bB];try exact bw)
  ·(simp only [go_sem,hD,hJ,hP,hY,aH bB];try exact bw)
theorem rO {l:List aD} (hl:l.length<4611686018427387904) (x:aD) (s:St):aI Try.prog bE [.slice .shared 1 (l.map encStr), .str x] s (.bool (eg l x)) s:=by
 refine aI.pure ?_ (by simp [D.bI,D.ok,Tag.ok,fi]) rfl s
 have hi:=fun s=>B5 hl x s
 unfold S0
 refine aI.go oC rfl fun B Q hB hQ=> ?_
 have⟨hD,hJ,hP,hY⟩:=cf
 repeat' (first
 | simp only [go_sem,hD,hJ,hP,hY,eg]
 | (with_reducible refine CU (hi _) ?_)
 | (with_reducible first | refine cD fun hc=> ?_ | refine cE fun hc=> ?_ | refine cG (fun hc=> ?_) fun hc=> ?_) <;> (try simp only [hc,bs, ↓reduceIte]at h) <;> try simp only [hc]
 | (with_reducible refine aJ hQ ?_;simp only [az,aB,dv,dw,go_sem,hD,hJ,hP,hY,eg];repeat' (first | exact Ok.out | with_reducible refine aO ?_ ?_ | (simp;done))))
theorem aI.Gh {P:Program} {f:Nat} {d d':D} {r:List D} {s s':St} {x:D} (h:aI P f (d'::r) s x s') (hw:Wk d d'):aI P f (d::r) s x s':=dr.zP (.cons hw (jq.refl r)) h
theorem gm {l:List aD} (hl:l.length<4611686018427387904) (x:aD) (g:Tag) (s:St):aI Try.prog bE [.slice g 1 (l.map encStr), .str x] s (.bool (eg l x)) s:=
 (rO hl x s).Gh (Wk.shared _ _ _)
theorem Av (x:aD) (z:Nat) (g:Tag) (s:St):aI Try.prog bE [.slice g z [], .str x] s (.bool false) s:=
 (rO (l:= []) (by simp) x s).Gh (Wk.nil _ _ _)
theorem tz {l:List aD} (hl:l.length<4611686018427387904) {f:Nat} {row:List D} {b:aD→Bool} (oK:D.bI 0 0 row=true) (he:enters Try.prog f=true)
 (hb : ∀ x∈l,aI Try.prog f ([.str x]++ [.ptr 0 0]) ⟨[row],[]⟩ (.bool (b x)) ⟨[row],[]⟩) :
 aI Try.prog gL [.slice .shared 1 (l.map encStr), .eW f [.ptr 0 0]] ⟨[row],[]⟩ (.int .i64 (jb b 0 l)) ⟨[row],[]⟩:=by
 generalize h:jb b 0 l=p
 have k1 : ∀ n m,D.fh n m row=row:=fun n m=>fu n m _ oK
 refine aI.go nZ rfl fun B Q hB hQ=> ?_
 have⟨hD,hJ,hP,hY⟩:=cf
 repeat' (first
 | simp only [go_sem,hD,hJ,hP,hY,k1]
 | (with_reducible first | refine cD fun hc=> ?_ | refine cE fun hc=> ?_ | refine cG (fun hc=> ?_) fun hc=> ?_) <;> (try simp only [hc,bs, ↓reduceIte]at h) <;> try simp only [hc]
 | (with_reducible refine aJ hQ ?_;(try cases h);simp only [az,aB,dv,dw,go_sem,hD,hJ,hP,hY,k1];repeat' (first | exact Ok.out | with_reducible refine aO ?_ ?_ | (simp;done))))
 refine dA 1 0 ?_ ?_ (bp.ind (ι:=List aD×Nat) (fun i=>l.drop i.2=i.1∧jb b (i.2:Int) i.1=p) (fun i=>i.1.length)
  (fun i=> [(0, .slice .shared 1 (l.map encStr)),(1, .eW f [.ptr 0 0]),(7, .int .i64 (l.length:Int)),(8, .int .i64 (i.2:Int))]) (fun i=>⟨[row],[]⟩) ?_ (l,0) ⟨rfl,h⟩)
 ·(simp only [go_sem,hD,hJ,hP,hY,k1];try exact bw)
 ·(simp only [go_sem,hD,hJ,hP,hY,k1];try exact bw)
 rintro⟨rest,k⟩ ⟨h1,h⟩ IH
 dsimp only at h1 h
 cases rest with
 | nil=>
  have hD:=drop_nil h1
  simp only [jb]at h
  repeat' (first
 | simp only [go_sem,hD,hJ,hP,hY,k1]
 | (with_reducible first | refine cD fun hc=> ?_ | refine cE fun hc=> ?_ | refine cG (fun hc=> ?_) fun hc=> ?_) <;> (try simp only [hc,bs, ↓reduceIte]at h) <;> try simp only [hc]
 | (with_reducible refine aJ hQ ?_;(try cases h);simp only [az,aB,dv,dw,go_sem,hD,hJ,hP,hY,k1];repeat' (first | exact Ok.out | with_reducible refine aO ?_ ?_ | (simp;done))))
 | cons a rest=>
  obtain⟨hJ,g2,hD,g4⟩:=drop_cons h1
  have bB:k<4611686018427387904:=by omega
  have NZ:=hb a (List.mem_of_getElem? hJ)
  simp only [jb]at h
  repeat' (first
 | simp only [go_sem,hD,hJ,hP,hY,k1]
 | (with_reducible refine CV.use (he) (NZ) ?_)
 | (with_reducible first | refine cD fun hc=> ?_ | refine cE fun hc=> ?_ | refine cG (fun hc=> ?_) fun hc=> ?_) <;> (try simp only [hc,bs, ↓reduceIte]at h) <;> try simp only [hc]
 | (with_reducible refine aJ hQ ?_;(try cases h);simp only [az,aB,dv,dw,go_sem,hD,hJ,hP,hY,k1];repeat' (first | exact Ok.out | with_reducible refine aO ?_ ?_ | (simp;done))))
  refine dA 1 0 ?_ ?_ (IH (rest,k+1) ⟨g2,h⟩ (Nat.lt_succ_self _))
  ·(simp only [go_sem,hD,hJ,hP,hY,k1,aH bB];try exact bw)
  ·(simp only [go_sem,hD,hJ,hP,hY,k1,aH bB];try exact bw)
theorem tA {P:Program} {g f:Nat} {row:List D} {rows:List (List D)} {z:Nat} {d:D} (h:aI P g [.slice .shared z rows, .eW f [.ptr 0 0]] ⟨[row],[]⟩ d ⟨[row],[]⟩) (oK:D.bI 0 0 row=true) (hw:D.gG 0 0 rows=true) (hd:D.ok 0 0 d=true) {s:St} {o:Nat} (ho:s.au[o]? = some row) :
 aI P g [.slice .shared z rows, .eW f [.ptr o 0]] s d s:=by
 refine dr.frame [o] [] h (by simp) List.nodup_nil (by simpa using (List.getElem?_eq_some_iff.1 ho).1) (by simp) rfl (fun i o' ds e1 e2=> ?_) rfl (by simp) (by simp [D.e7,D.cJ,Tag.cJ,jJ _ _ _ hw])
  (by simp [D.bI,D.ok,Tag.ok,lN (Nat.zero_le 1) (Nat.le_refl 0) _ hw]) ?_
 ·cases i with
  | zero=>simp at e1 e2;subst e1;subst e2;exact⟨by rw [e8 _ _ _ oK];exact ho,gA (Nat.zero_le 1) (Nat.le_refl 0) _ oK⟩
  | succ i=>simp at e1
 ·rintro _ _ ⟨rfl,rfl⟩
  refine⟨nj _ _ _ hd, ?_⟩
  have:s.au.set o row=s.au:=by
   apply List.ext_getElem?
   intro i
   rw [List.getElem?_set]
   split
   ·rename_i e;subst e;rw [ho];split
    ·rfl
    ·rename_i hh;exact absurd (List.getElem?_eq_some_iff.1 ho).1 hh
   ·rfl
  simp [St.back,ij,e8 _ _ _ oK,this]
theorem rf {l:List aD} (hl:l.length<4611686018427387904) {f:Nat} {row:List D} {b:aD→Bool} (oK:D.bI 0 0 row=true) (he:enters Try.prog f=true)
 (hb : ∀ x∈l,aI Try.prog f ([.str x]++ [.ptr 0 0]) ⟨[row],[]⟩ (.bool (b x)) ⟨[row],[]⟩) :
 aI Try.prog dY [.slice .shared 1 (l.map encStr), .eW f [.ptr 0 0]] ⟨[row],[]⟩ (.bool (l.any b)) ⟨[row],[]⟩:=by
 have k1 : ∀ n m,D.fh n m row=row:=fun n m=>fu n m _ oK
 have hi:=tz hl oK he hb
 have e:decide (jb b 0 l≥0)=l.any b:=by
  have:=xn b l 0 (Int.le_refl 0)
  cases hh:l.any b <;> simp_all
 refine aI.go mF rfl fun B Q hB hQ=> ?_
 have⟨hD,hJ,hP,hY⟩:=cf
 repeat' (first
 | simp only [go_sem,hD,hJ,hP,hY,k1,e]
 | (with_reducible refine CU (hi) ?_)
 | (with_reducible first | refine cD fun hc=> ?_ | refine cE fun hc=> ?_ | refine cG (fun hc=> ?_) fun hc=> ?_) <;> (try simp only [hc,bs, ↓reduceIte]at h) <;> try simp only [hc]
 | (with_reducible refine aJ hQ ?_;simp only [az,aB,dv,dw,go_sem,hD,hJ,hP,hY,k1,e];repeat' (first | exact Ok.out | with_reducible refine aO ?_ ?_ | (simp;done))))
theorem rh {l:List aD} (hl:l.length<4611686018427387904) {f:Nat} {row:List D} {b:aD→Bool} (oK:D.bI 0 0 row=true) (he:enters Try.prog f=true)
 (hb : ∀ x∈l,aI Try.prog f ([.str x]++ [.ptr 0 0]) ⟨[row],[]⟩ (.bool (b x)) ⟨[row],[]⟩) {s:St} {o:Nat} (ho:s.au[o]? = some row) :
 aI Try.prog dY [.slice .shared 1 (l.map encStr), .eW f [.ptr o 0]] s (.bool (l.any b)) s:=
 tA (rf hl oK he hb) oK (fi l) rfl ho
theorem pB {l:List Pc} (hl:l.length<4611686018427387904) {f:Nat} {row:List D} {b:Pc→Bool} (oK:D.bI 0 0 row=true) (he:enters Try.prog f=true)
 (hb : ∀ x∈l,aI Try.prog f ([.agg (bL x)]++ [.ptr 0 0]) ⟨[row],[]⟩ (.bool (b x)) ⟨[row],[]⟩) :
 aI Try.prog ei [.slice .shared 5 (l.map bL), .eW f [.ptr 0 0]] ⟨[row],[]⟩ (.int .i64 (jb b 0 l)) ⟨[row],[]⟩:=by
 generalize h:jb b 0 l=p
 have k1 : ∀ n m,D.fh n m row=row:=fun n m=>fu n m _ oK
 refine aI.go mP rfl fun B Q hB hQ=> ?_
 have⟨hD,hJ,hP,hY⟩:=cf
 repeat' (first
 | simp only [go_sem,hD,hJ,hP,hY,k1]
 | (with_reducible first | refine cD fun hc=> ?_ | refine cE fun hc=> ?_ | refine cG (fun hc=> ?_) fun hc=> ?_) <;> (try simp only [hc,bs, ↓reduceIte]at h) <;> try simp only [hc]
 | (with_reducible refine aJ hQ ?_;(try cases h);simp only [az,aB,dv,dw,go_sem,hD,hJ,hP,hY,k1];repeat' (first | exact Ok.out | with_reducible refine aO ?_ ?_ | (simp;done))))
 refine dA 1 0 ?_ ?_ (bp.ind (ι:=List Pc×Nat) (fun i=>l.drop i.2=i.1∧jb b (i.2:Int) i.1=p) (fun i=>i.1.length)
  (fun i=> [(0, .slice .shared 5 (l.map bL)),(1, .eW f [.ptr 0 0]),(7, .int .i64 (l.length:Int)),(8, .int .i64 (i.2:Int))]) (fun i=>⟨[row],[]⟩) ?_ (l,0) ⟨rfl,h⟩)
 ·(simp only [go_sem,hD,hJ,hP,hY,k1];try exact bw)
 ·(simp only [go_sem,hD,hJ,hP,hY,k1];try exact bw)
 rintro⟨rest,k⟩ ⟨h1,h⟩ IH
 dsimp only at h1 h
 cases rest with
 | nil=>
  have hD:=drop_nil h1
  simp only [jb]at h
  repeat' (first
 | simp only [go_sem,hD,hJ,hP,hY,k1]
 | (with_reducible first | refine cD fun hc=> ?_ | refine cE fun hc=> ?_ | refine cG (fun hc=> ?_) fun hc=> ?_) <;> (try simp only [hc,bs, ↓reduceIte]at h) <;> try simp only [hc]
 | (with_reducible refine aJ hQ ?_;(try cases h);simp only [az,aB,dv,dw,go_sem,hD,hJ,hP,hY,k1];repeat' (first | exact Ok.out | with_reducible refine aO ?_ ?_ | (simp;done))))
 | cons a rest=>
  obtain⟨hJ,g2,hD,g4⟩:=drop_cons h1
  have bB:k<4611686018427387904:=by omega
  have NZ:=hb a (List.mem_of_getElem? hJ)
  simp only [jb]at h
  repeat' (first
 | simp only [go_sem,hD,hJ,hP,hY,k1]
 | (with_reducible refine CV.use (he) (NZ) ?_)
 | (with_reducible first | refine cD fun hc=> ?_ | refine cE fun hc=> ?_ | refine cG (fun hc=> ?_) fun hc=> ?_) <;> (try simp only [hc,bs, ↓reduceIte]at h) <;> try simp only [hc]
 | (with_reducible refine aJ hQ ?_;(try cases h);simp only [az,aB,dv,dw,go_sem,hD,hJ,hP,hY,k1];repeat' (first | exact Ok.out | with_reducible refine aO ?_ ?_ | (simp;done))))
  refine dA 1 0 ?_ ?_ (IH (rest,k+1) ⟨g2,h⟩ (Nat.lt_succ_self _))
  ·(simp only [go_sem,hD,hJ,hP,hY,k1,aH bB];try exact bw)
  ·(simp only [go_sem,hD,hJ,hP,hY,k1,aH bB];try exact bw)
theorem sG {l:List Pc} (hl:l.length<4611686018427387904) {f:Nat} {row:List D} {b:Pc→Bool} (oK:D.bI 0 0 row=true) (he:enters Try.prog f=true)
 (hb : ∀ x∈l,aI Try.prog f ([.agg (bL x)]++ [.ptr 0 0]) ⟨[row],[]⟩ (.bool (b x)) ⟨[row],[]⟩) :
 aI Try.prog eQ [.slice .shared 5 (l.map bL), .eW f [.ptr 0 0]] ⟨[row],[]⟩ (.bool (l.any b)) ⟨[row],[]⟩:=by
 have k1 : ∀ n m,D.fh n m row=row:=fun n m=>fu n m _ oK
 have hi:=pB hl oK he hb
 have e:decide (jb b 0 l≥0)=l.any b:=by
  have:=xn b l 0 (Int.le_refl 0)
  cases hh:l.any b <;> simp_all
 refine aI.go lQ rfl fun B Q hB hQ=> ?_
 have⟨hD,hJ,hP,hY⟩:=cf
 repeat' (first
 | simp only [go_sem,hD,hJ,hP,hY,k1,e]
 | (with_reducible refine CU (hi) ?_)
 | (with_reducible first | refine cD fun hc=> ?_ | refine cE fun hc=> ?_ | refine cG (fun hc=> ?_) fun hc=> ?_) <;> (try simp only [hc,bs, ↓reduceIte]at h) <;> try simp only [hc]
 | (with_reducible refine aJ hQ ?_;simp only [az,aB,dv,dw,go_sem,hD,hJ,hP,hY,k1,e];repeat' (first | exact Ok.out | with_reducible refine aO ?_ ?_ | (simp;done))))
end Go.Abs

/-! MirFlat2 -/

namespace Go.Abs
mutual
def Sm.pre:Sm→List Sm
 | ⟨id,kind,labels,name,pc,x,has,args,aZ,aQ⟩=>⟨id,kind,labels,name,pc,x,has,args,aZ,aQ⟩::(Sm.e9 aZ++Sm.e9 aQ)
def Sm.e9:List Sm→List Sm
 | []=> []
 | s::l=>s.pre++Sm.e9 l
end
def Pg.pre (p:Pg):List Sm:=(p.procs.map fun f=>Sm.e9 f.body).flatten
mutual
theorem LH (proc up next loop:Int) (out:List Im) : ∀ s:Sm,∃ e:List Im,Im.one proc up next loop out s=out++e∧e.map Im.s=s.pre
 | ⟨id,kind,labels,name,pc,x,has,args,aZ,aQ⟩=>by
  simp only [Im.one,Sm.pre]
  obtain⟨e1,h1,k1⟩:=rP proc ((out.length:Int)+1) (if kind==6 then(out.length:Int)+1 else next) (if kind==6 then(out.length:Int)+1 else loop) (out++ [⟨⟨id,kind,labels,name,pc,x,has,args,aZ,aQ⟩,proc,up,next,loop⟩]) aZ
  obtain⟨e2,h2,k2⟩:=rP proc ((out.length:Int)+1) (if kind==6 then(out.length:Int)+1 else next) (if kind==6 then(out.length:Int)+1 else loop) (Im.rows proc ((out.length:Int)+1) (if kind==6 then(out.length:Int)+1 else next) (if kind==6 then(out.length:Int)+1 else loop) (out++ [⟨⟨id,kind,labels,name,pc,x,has,args,aZ,aQ⟩,proc,up,next,loop⟩]) aZ) aQ
  refine⟨⟨⟨id,kind,labels,name,pc,x,has,args,aZ,aQ⟩,proc,up,next,loop⟩::(e1++e2), ?_, ?_⟩
  ·rw [h2,h1];simp
  ·simp [k1,k2]
theorem rP (proc up next loop:Int) (out:List Im) : ∀ l:List Sm,∃ e:List Im,Im.rows proc up next loop out l=out++e∧e.map Im.s=Sm.e9 l
 | []=>⟨[],by simp [Im.rows],rfl⟩
 | s::l=>by
  simp only [Im.rows,Sm.e9]
  obtain⟨e1,h1,k1⟩:=LH proc up (if l.length=0 then next else(out.length:Int)+1+(s.gk:Int)) loop out s
  obtain⟨e2,h2,k2⟩:=rP proc up next loop (Im.one proc up (if l.length=0 then next else(out.length:Int)+1+(s.gk:Int)) loop out s) l
  refine⟨e1++e2, ?_,by simp [k1,k2]⟩
  rw [h2,h1];simp
end
theorem Gi : ∀ (l:List Pc) (n:Nat) (h:Sh),h.lo.length=n→h.hi.length=n→
 ∃ e lo hi,Sh.go n h l = ⟨h.L++e,h.lo++lo,h.hi++hi⟩∧e.map Im.s=(l.map fun f=>Sm.e9 f.body).flatten∧lo.length=l.length∧hi.length=l.length∧
  ∀ (i:Nat) (f:Pc),l[i]? = some f→∃ a b e' EE:List Im,lo[i]? = some (((h.L++a).length:Int)+1)∧hi[i]? = some (((h.L++a++b).length:Int)+1)∧b.map Im.s=Sm.e9 f.body∧e=a++b++e'
 | [],n,h,hl,hh=>⟨[],[],[],by simp [Sh.go],rfl,rfl,rfl,fun i f h=>by simp at h⟩
 | f::l,n,h,hl,hh=>by
  simp only [Sh.go]
  obtain⟨e1,h1,k1⟩:=rP (n:Int) 0 (-1) 0 h.L f.body
  obtain⟨e2,lo,hi,h2,k2,h3,h4,h5⟩:=Gi l (n+1) ⟨Im.rows (n:Int) 0 (-1) 0 h.L f.body,h.lo++ [(h.L.length:Int)+1],h.hi++ [((Im.rows (n:Int) 0 (-1) 0 h.L f.body).length:Int)+1]⟩ (by simp [hl]) (by simp [hh])
  refine⟨e1++e2,((h.L.length:Int)+1)::lo,(((Im.rows (n:Int) 0 (-1) 0 h.L f.body).length:Int)+1)::hi, ?_,by simp [k1,k2],by simp [h3],by simp [h4],fun i g fU=> ?_⟩
  ·rw [h2,h1];simp
  ·cases i with
   | zero=>
    simp only [List.getElem?_cons_zero,Option.some.injEq]at fU
    subst fU
    exact⟨[],e1,e2,[],by simp,by rw [h1];simp,k1,by simp⟩
   | succ i=>
    simp only [List.getElem?_cons_succ]at fU
    obtain⟨a,b,e',EE,g1,g2,g3,g4⟩:=h5 i g fU
    refine⟨e1++a,b,e',EE, ?_, ?_,g3,by rw [g4];simp⟩
    ·rw [List.getElem?_cons_succ,g1,h1];simp
    ·rw [List.getElem?_cons_succ,g2,h1];simp
theorem lY (p:Pg):p.dM.L.map Im.s=p.pre∧∀ (i:Nat) (f:Pc),p.procs[i]? = some f→∃ a b e:List Im,p.dM.lo[i]? = some ((a.length:Int)+1)∧p.dM.hi[i]? = some (((a++b).length:Int)+1)∧b.map Im.s=Sm.e9 f.body∧p.dM.L=a++b++e:=by
 obtain⟨e,lo,hi,h1,h2,h3,h4,h5⟩:=Gi p.procs 0 ⟨[],[],[]⟩ rfl rfl
 unfold Pg.dM
 rw [h1]
 refine⟨by simpa [Pg.pre]using h2,fun i f hf=> ?_⟩
 obtain⟨a,b,e',_,g1,g2,g3,g4⟩:=h5 i f hf
 exact⟨a,b,e',by simpa using g1,by simpa using g2,g3,by simpa using g4⟩
end Go.Abs

/-! Sl2 -/

namespace Go.Abs
set_option maxRecDepth 8000
open Go.Proofs
def Pg.at (p:Pg) (name:aD):Int:=jb (fun f:Pc=>f.name==name) 0 p.procs
theorem LI (name:aD) (f:Pc):aI Try.prog iw ([.agg (bL f)]++ [.ptr 0 0]) ⟨[[.str name]],[]⟩ (.bool (f.name==name)) ⟨[[.str name]],[]⟩:=by
 show aI Try.prog iw [.agg (bL f), .ptr 0 0] _ _ _
 refine aI.go q7 rfl fun B Q hB hQ=> ?_
 have⟨hD,hJ,hP,hY⟩:=cf
 repeat' (first
 | simp only [go_sem,hD,hJ,hP,hY]
 | (with_reducible refine aJ hQ ?_;simp only [az,aB,Option.some.injEq,exists_eq_left',go_sem,hD,hJ,hP,hY];repeat' (first | exact Ok.out | with_reducible refine aO ?_ ?_ | (simp;done))))
theorem Gj {p:Pg} (hs:p.procs.length<4611686018427387904) (name:aD) (s:St):aI Try.prog jl [.cL (ix p) 0, .str name] s (.int .i64 (p.at name)) s:=by
 refine aI.pure ?_ (by simp [D.bI,D.ok,xm]) rfl s
 have hi:=fun {s:St} {o:Nat} (ho:s.au[o]? = some [.str name])=>tA (pB (l:=p.procs) (f:=iw) (row:= [.str name]) (b:=fun f:Pc=>f.name==name) hs rfl (by with_unfolding_all rfl) (fun x _=>LI name x)) rfl (zb _) rfl ho
 have fU:=fun {s:St} {o:Nat} (ho:s.au[o]? = some [.str name])=>(show aI Try.prog ei [.slice .shared 5 (p.procs.map bL), .eW 66 [.ptr o 0]] s (.int .i64 (p.at name)) s from hi ho)
 unfold S0
 rw [rN]
 refine aI.go sF rfl fun B Q hB hQ=> ?_
 have⟨hD,hJ,hP,hY⟩:=cf
 repeat' (first
 | simp only [go_sem,hD,hJ,hP,hY]
 | (with_reducible refine CU (fU (by with_unfolding_all rfl)) ?_)
 | (with_reducible refine aJ hQ ?_;simp only [az,aB,Option.some.injEq,exists_eq_left',go_sem,hD,hJ,hP,hY];repeat' (first | exact Ok.out | with_reducible refine aO ?_ ?_ | (simp;done))))
theorem Gk : ∀ (l:List Pc) (n:Nat) (h:Sh),(Sh.go n h l).L.length≤h.L.length+Pc.aT l
 | [],n,h=>by simp [Sh.go]
 | f::l,n,h=>by
  simp only [Sh.go]
  refine Nat.le_trans (Gk l _ _) ?_
  have:=eI (n:Int) 0 (-1) 0 h.L f.body
  have:=kS f.body
  simp only [Pc.aT,Pc.size];omega
theorem lZ (p:Pg):p.dM.L.length≤Pc.aT p.procs:=by have:=Gk p.procs 0 ⟨[],[],[]⟩;simpa [Pg.dM]using this
theorem IZ {p:Pg} {i:Nat} {f:Pc} (hf:p.procs[i]? = some f) (hs:Pc.aT p.procs<1000000000) : ∃ it:List Im,it.map Im.s=Sm.e9 f.body∧∀ s,aI Try.prog iR [.cL (ix p) 0, .int .i64 (i:Int)] s (.slice .shared 17 (it.map dW)) s:=by
 obtain⟨a,b,e,h1,h2,h3,h4⟩:=(lY p).2 i f hf
 refine⟨b,h3,fun s=> ?_⟩
 refine aI.pure ?_ (by simp [D.bI,D.ok,xm]) (by simp [D.ok,Tag.ok,zc]) s
 have hL:p.dM.L.length<1000000000:=Nat.lt_of_le_of_lt (lZ p) hs
 have l1:(i:Int)<(p.dM.lo.length:Int):=by have:=(List.getElem?_eq_some_iff.1 h1).1;omega
 have l2:(i:Int)<(p.dM.hi.length:Int):=by have:=(List.getElem?_eq_some_iff.1 h2).1;omega
 have Kx:a.length+b.length≤p.dM.L.length:=by rw [h4];simp
 have w1:IntKind.wrap .i64 ((a.length:Int)+1 - 1)=(a.length:Int):=by rw [show(a.length:Int)+1 - 1=(a.length:Int) by omega];exact dt (by omega) (by omega)
 have w2:IntKind.wrap .i64 (((a.length+b.length:Nat):Int)+1 - 1)=((a.length+b.length:Nat):Int):=by rw [show((a.length+b.length:Nat):Int)+1 - 1=((a.length+b.length:Nat):Int) by omega];exact dt (by omega) (by omega)
 have c1:((a.length:Int)≤((a.length+b.length:Nat):Int))=True:=by simp only [eq_iff_iff,iff_true];omega
 have c2:(((a.length+b.length:Nat):Int)≤(p.dM.L.length:Int))=True:=by simp only [eq_iff_iff,iff_true];omega
 have hb:List.drop a.length (List.take (a.length+b.length) (List.map dW p.dM.L))=List.map dW b:=by rw [h4];simp [List.map_append,List.take_append,List.drop_append]
 unfold S0
 rw [rN]
 refine aI.go uu rfl fun B Q hB hQ=> ?_
 have⟨hD,hJ,hP,hY⟩:=cf
 repeat' (first
 | simp only [go_sem,hD,hJ,hP,hY,h1,h2,w1,w2,c1,c2,or_true,true_and,and_self,ite_self,Int.toNat_natCast,hb]
 | (with_reducible refine aJ hQ ?_;simp only [az,aB,Option.some.injEq,exists_eq_left',go_sem,hD,hJ,hP,hY];repeat' (first | exact Ok.out | with_reducible refine aO ?_ ?_ | (simp;done))))
end Go.Abs

/-! TMay1 -/

namespace Go.Abs
set_option maxRecDepth 8000
open Go.Proofs
theorem xZ {r:aD} : ud r=true↔kV r=r.length:=by
 induction r with
 | nil=>simp [ud,kV]
 | cons c r ih=>
  simp only [ud,kV]
  cases h1:tw c <;> cases h2:wh c <;> simp [ih]
theorem tB (t:aD) (hl:t.length<4611686018427387904) (s:St):aI Try.prog jQ [.str t] s (.bool (isName t)) s:=by
 refine aI.pure ?_ rfl rfl s
 have hr:=fun s=>Qb (pos:=0) hl s
 simp only [List.drop_zero,Nat.zero_add]at hr
 unfold S0
 cases t with
 | nil=>
  have z:decide (((0:Nat):Int)<1)=true:=rfl
  have z':decide ((0:Int)<1)=true:=rfl
  have e:isName [] = false:=rfl
  rw [e]
  refine aI.go jz rfl fun B Q hB hQ=> ?_
  have⟨hD,hJ,hP,hY⟩:=cf
  repeat' (first
 | simp only [go_sem,hD,hJ,hP,hY,z,z']
 | (with_reducible refine aJ hQ ?_;simp only [az,aB,Option.some.injEq,exists_eq_left',go_sem,hD,hJ,hP,hY];repeat' (first | exact Ok.out | with_reducible refine aO ?_ ?_ | (simp;done))))
 | cons c r=>
  have l1:decide (((r.length+1:Nat):Int)<1)=false:=by simp;omega
  generalize h:isName (c::r)=p
  simp only [isName]at h
  cases hL:tw c
  ·simp only [hL,Bool.not_false,Bool.or_true, ↓reduceIte]at h
   subst h
   by_cases c8:decide (((r.length+1:Nat):Int) > 8)=true
   ·refine aI.go jz rfl fun B Q hB hQ=> ?_
    have⟨hD,hJ,hP,hY⟩:=cf
    repeat' (first
 | simp only [go_sem,hD,hJ,hP,hY,l1,c8]
 | (with_reducible refine aJ hQ ?_;simp only [az,aB,Option.some.injEq,exists_eq_left',go_sem,hD,hJ,hP,hY];repeat' (first | exact Ok.out | with_reducible refine aO ?_ ?_ | (simp;done))))
   ·have c8:decide (((r.length+1:Nat):Int) > 8)=false:=by simpa using c8
    refine aI.go jz rfl fun B Q hB hQ=> ?_
    have⟨hD,hJ,hP,hY⟩:=cf
    repeat' (first
 | simp only [go_sem,hD,hJ,hP,hY,l1,c8,hL]
 | (with_reducible refine CU (nq _ _) ?_)
 | (with_reducible refine aJ hQ ?_;simp only [az,aB,Option.some.injEq,exists_eq_left',go_sem,hD,hJ,hP,hY];repeat' (first | exact Ok.out | with_reducible refine aO ?_ ?_ | (simp;done))))
  ·simp only [hL,Bool.not_true,Bool.or_false]at h
   by_cases c8:decide (((r.length+1:Nat):Int) > 8)=true
   ·simp only [c8, ↓reduceIte]at h
    subst h
    refine aI.go jz rfl fun B Q hB hQ=> ?_
    have⟨hD,hJ,hP,hY⟩:=cf
    repeat' (first
 | simp only [go_sem,hD,hJ,hP,hY,l1,c8]
 | (with_reducible refine aJ hQ ?_;simp only [az,aB,Option.some.injEq,exists_eq_left',go_sem,hD,hJ,hP,hY];repeat' (first | exact Ok.out | with_reducible refine aO ?_ ?_ | (simp;done))))
   ·have c8:decide (((r.length+1:Nat):Int) > 8)=false:=by simpa using c8
    simp only [c8,Bool.false_eq_true, ↓reduceIte]at h
    have cM:kV (c::r)=kV r+1:=by simp [kV,hL]
    cases hn:ud r
    ·simp only [hn,Bool.false_eq_true, ↓reduceIte]at h
     have:kV r≠r.length:=fun e=>by rw [xZ.2 e]at hn;cases hn
     have e:(((kV (c::r):Nat):Int)==((r.length+1:Nat):Int))=false:=by rw [cM];simp;omega
     subst h
     refine aI.go jz rfl fun B Q hB hQ=> ?_
     have⟨hD,hJ,hP,hY⟩:=cf
     repeat' (first
 | simp only [go_sem,hD,hJ,hP,hY,l1,c8,hL,e]
 | (with_reducible refine CU (nq _ _) ?_)
 | (with_reducible refine CU (hr _) ?_)
 | (with_reducible refine aJ hQ ?_;simp only [az,aB,Option.some.injEq,exists_eq_left',go_sem,hD,hJ,hP,hY];repeat' (first | exact Ok.out | with_reducible refine aO ?_ ?_ | (simp;done))))
    ·simp only [hn, ↓reduceIte]at h
     have:=xZ.1 hn
     have e:(((kV (c::r):Nat):Int)==((r.length+1:Nat):Int))=true:=by rw [cM];simp;omega
     subst h
     refine aI.go jz rfl fun B Q hB hQ=> ?_
     have⟨hD,hJ,hP,hY⟩:=cf
     repeat' (first
 | simp only [go_sem,hD,hJ,hP,hY,l1,c8,hL,e]
 | (with_reducible refine CU (nq _ _) ?_)
 | (with_reducible refine CU (hr _) ?_)
 | (with_reducible refine CU (NS _ _) ?_)
 | (with_reducible refine aJ hQ ?_;simp only [az,aB,Option.some.injEq,exists_eq_left',go_sem,hD,hJ,hP,hY];repeat' (first | exact Ok.out | with_reducible refine aO ?_ ?_ | (simp;done))))
theorem B6 (op:Int) (s:St):aI Try.prog qJ [.int .i64 op] s (.int .i64 (lD op)) s:=by
 refine aI.pure ?_ rfl rfl s
 unfold S0
 generalize h:lD op=p
 unfold lD at h
 refine aI.go yO rfl fun B Q hB hQ=> ?_
 have⟨hD,hJ,hP,hY⟩:=cf
 repeat' (first
 | simp only [go_sem,hD,hJ,hP,hY]
 | (with_reducible first | refine cD fun hc=> ?_ | refine cE fun hc=> ?_ | refine cG (fun hc=> ?_) fun hc=> ?_) <;> (try simp only [hc,bs, ↓reduceIte]at h) <;> try simp only [hc]
 | (with_reducible refine aJ hQ ?_;(try cases h);simp only [az,aB,dv,dw,go_sem,hD,hJ,hP,hY];repeat' (first | exact Ok.out | with_reducible refine aO ?_ ?_ | (simp;done))))
theorem rQ {l:List aD} (hl:l.length<4611686018427387904) (hs : ∀ t∈l,t.length<4611686018427387904) (s:St):aI Try.prog jw [.slice .shared 1 (l.map encStr)] s (.bool (df l)) s:=by
 refine aI.pure ?_ (by simp [D.bI,D.ok,fi,Tag.ok]) rfl s
 unfold S0
 generalize h:df l=p
 refine aI.go xf rfl fun B Q hB hQ=> ?_
 have⟨hD,hJ,hP,hY⟩:=cf
 repeat' (first
 | simp only [go_sem,hD,hJ,hP,hY]
 | (with_reducible first | refine cD fun hc=> ?_ | refine cE fun hc=> ?_ | refine cG (fun hc=> ?_) fun hc=> ?_) <;> (try simp only [hc,bs, ↓reduceIte]at h) <;> try simp only [hc]
 | (with_reducible refine aJ hQ ?_;(try cases h);simp only [az,aB,dv,dw,go_sem,hD,hJ,hP,hY];repeat' (first | exact Ok.out | with_reducible refine aO ?_ ?_ | (simp;done))))
 refine dF 0 0 (bp.ind (ι:=List aD×Nat) (fun i=>l.drop i.2=i.1∧df i.1=p) (fun i=>i.1.length)
  (fun i=> [(5, .slice .shared 1 (l.map encStr)),(6, .int .i64 (l.length:Int)),(7, .int .i64 (i.2:Int))]) (fun i=>⟨[],[]⟩) ?_ (l,0) ⟨rfl,h⟩)
 rintro⟨rest,k⟩ ⟨h1,h⟩ IH
 dsimp only at h1 h
 cases rest with
 | nil=>
  have hD:=drop_nil h1
  simp only [df]at h
  repeat' (first
 | simp only [go_sem,hD,hJ,hP,hY]
 | (with_reducible first | refine cD fun hc=> ?_ | refine cE fun hc=> ?_ | refine cG (fun hc=> ?_) fun hc=> ?_) <;> (try simp only [hc,bs, ↓reduceIte]at h) <;> try simp only [hc]
 | (with_reducible refine aJ hQ ?_;(try cases h);simp only [az,aB,dv,dw,go_sem,hD,hJ,hP,hY];repeat' (first | exact Ok.out | with_reducible refine aO ?_ ?_ | (simp;done))))
 | cons t rest=>
  obtain⟨hJ,g2,hD,g4⟩:=drop_cons h1
  have hP:k<4611686018427387904:=by omega
  have hn:=tB t (hs t (List.mem_of_getElem? hJ))
  simp only [df]at h
  repeat' (first
 | simp only [go_sem,hD,hJ,hP,hY]
 | (with_reducible refine CU (hn _) ?_)
 | (with_reducible first | refine cD fun hc=> ?_ | refine cE fun hc=> ?_ | refine cG (fun hc=> ?_) fun hc=> ?_) <;> (try simp only [hc,bs, ↓reduceIte]at h) <;> try simp only [hc]
 | (with_reducible refine aJ hQ ?_;(try cases h);simp only [az,aB,dv,dw,go_sem,hD,hJ,hP,hY];repeat' (first | exact Ok.out | with_reducible refine aO ?_ ?_ | (simp;done))))
  refine dF 0 0 (IH (rest,k+1) ⟨g2,h⟩ (Nat.lt_succ_self _))
mutual
def Ex.dp (left:Int):Ex→Bool
 | ⟨op,n,name,kids⟩=>
  if decide (left<1) || (kids.length:Int) != lD op then false
  else if op==1 then decide (n≥0) && name == []
  else if op==2 then n==0 && isName name
  else if n != 0 || !(name == [])then false
  else Ex.wk (left - 1) kids
def Ex.wk (left:Int):List Ex→Bool
 | []=>true
 | x::l=>if !(Ex.dp left x)then false else Ex.wk left l
end
theorem LJ : ∀ (m:Nat) (x:Ex),x.size≤m→x.size<4611686018427387904→x.texts→∀ left:Int,0≤left→left≤100→∀ s:St,aI Try.prog lC [.agg (bA x), .int .i64 left] s (.bool (x.dp left)) s:=by
 intro m
 induction m with
 | zero=>rintro⟨op,v,name,kids⟩ h;simp only [Ex.size]at h;omega
 | succ m ih=>
  rintro⟨op,v,name,kids⟩ h hx ht left h0 aaO s
  refine aI.pure ?_ (by simp [D.bI,D.ok,kl]) rfl s
  have hlen:kids.length<4611686018427387904:=by simp only [Ex.size]at hx;have:=Ex.cP kids;omega
  have hn:=tB name ht.1
  generalize hp:Ex.dp left ⟨op,v,name,kids⟩=p
  simp only [Ex.dp]at hp
  unfold S0
  by_cases Gl:left<1
  ·have d1:decide (left<1)=true:=by simpa using Gl
   simp only [d1,Bool.true_or, ↓reduceIte]at hp
   subst hp
   refine aI.go su rfl fun B Q hB hQ=> ?_
   have⟨hD,hJ,hP,hY⟩:=cf
   repeat' (first
 | simp only [go_sem,hD,hJ,hP,hY,d1]
 | (with_reducible refine CU (B6 _ _) ?_)
 | (with_reducible refine CU (hn _) ?_)
 | (with_reducible refine aJ hQ ?_;simp only [az,aB,dv,dw,go_sem,hD,hJ,hP,hY];repeat' (first | exact Ok.out | with_reducible refine aO ?_ ?_ | (simp;done))))
  ·have d1:decide (left<1)=false:=by simpa using Gl
   have w1:IntKind.wrap .i64 (left - 1)=left - 1:=dt (by omega) (by omega)
   have hk : ∀ y∈kids,∀ s,aI Try.prog lC [.agg (bA y), .int .i64 (left - 1)] s (.bool (y.dp (left - 1))) s:=fun y hy s=>
    ih y (by simp only [Ex.size]at h;have:=Ex.b6 hy;omega) (by simp only [Ex.size]at hx;have:=Ex.b6 hy;omega) (Ex.Ga ht hy) (left - 1) (by omega) (by omega) s
   simp only [d1,Bool.false_or]at hp
   have h:=hp
   clear hp
   refine aI.go su rfl fun B Q hB hQ=> ?_
   have⟨hD,hJ,hP,hY⟩:=cf
   repeat' (first
 | simp only [go_sem,hD,hJ,hP,hY,d1]
 | (with_reducible refine CU (B6 _ _) ?_)
 | (with_reducible refine CU (hn _) ?_)
 | (with_reducible first | refine cD fun hc=> ?_ | refine cE fun hc=> ?_ | refine cG (fun hc=> ?_) fun hc=> ?_) <;> (try simp only [hc,bs, ↓reduceIte]at h) <;> try simp only [hc]
 | (with_reducible refine aJ hQ ?_;(try cases h);simp only [az,aB,dv,dw,go_sem,hD,hJ,hP,hY,d1];repeat' (first | exact Ok.out | with_reducible refine aO ?_ ?_ | (simp;done))))
   all_goals
    refine dF 1 0 (bp.ind (ι:=List Ex×Nat) (fun i=>kids.drop i.2=i.1∧Ex.wk (left - 1) i.1=p) (fun i=>i.1.length)
     (fun i=> [(1, .int .i64 left),(49, .slice .shared 4 (kids.map bA)),(50, .int .i64 (kids.length:Int)),(51, .int .i64 (i.2:Int))]) (fun i=>⟨[bA ⟨op,v,name,kids⟩],[]⟩) ?_ (kids,0) ⟨rfl,h⟩)
    rintro⟨rest,k⟩ ⟨h1,h⟩ IH
    dsimp only at h1 h
    cases rest with
    | nil=>
     have hD:=drop_nil h1
     simp only [Ex.wk]at h
     repeat' (first
 | simp only [go_sem,hD,hJ,hP,hY]
 | (with_reducible first | refine cD fun hc=> ?_ | refine cE fun hc=> ?_ | refine cG (fun hc=> ?_) fun hc=> ?_) <;> (try simp only [hc,bs, ↓reduceIte]at h) <;> try simp only [hc]
 | (with_reducible refine aJ hQ ?_;exact ju)
 | (cases h;done))
    | cons y rest=>
     obtain⟨hJ,g2,hD,g4⟩:=drop_cons h1
     have hy:=hk y (List.mem_of_getElem? hJ)
     have hP:k<4611686018427387904:=by omega
     simp only [Ex.wk]at h
     repeat' (first
 | simp only [go_sem,hD,hJ,hP,hY,w1]
 | (with_reducible refine CU (hy _) ?_)
 | (with_reducible first | refine cD fun hc=> ?_ | refine cE fun hc=> ?_ | refine cG (fun hc=> ?_) fun hc=> ?_) <;> (try simp only [hc,bs, ↓reduceIte]at h) <;> try simp only [hc]
 | (with_reducible refine aJ hQ ?_;(try cases h);simp only [az,aB,dv,dw,go_sem,hD,hJ,hP,hY,w1];repeat' (first | exact Ok.out | with_reducible refine aO ?_ ?_ | (simp;done))))
     refine dF 1 0 (IH (rest,k+1) ⟨g2,h⟩ (Nat.lt_succ_self _))
end Go.Abs

/-! TMay2 -/

namespace Go.Abs
set_option maxRecDepth 8000
open Go.Proofs
theorem wm {x:Ex} (hx:x.size<4611686018427387904) (ht:x.texts) (s:St):aI Try.prog k9 [.agg (bA x)] s (.bool (x.dp 20)) s:=by
 refine aI.pure ?_ (by simp [D.bI,D.ok,kl]) rfl s
 have hd:=fun s=>LJ _ x (Nat.le_refl _) hx ht 20 (by omega) (by omega) s
 unfold S0
 refine aI.go vi rfl fun B Q hB hQ=> ?_
 have⟨hD,hJ,hP,hY⟩:=cf
 repeat' (first
 | simp only [go_sem,hD,hJ,hP,hY]
 | (with_reducible refine CU (hd _) ?_)
 | (with_reducible first | refine cD fun hc=> ?_ | refine cE fun hc=> ?_ | refine cG (fun hc=> ?_) fun hc=> ?_) <;> (try simp only [hc,bs, ↓reduceIte]at h) <;> try simp only [hc]
 | (with_reducible refine aJ hQ ?_;exact ju)
 | (cases h;done))
theorem LK (x:Ex) (s:St):aI Try.prog qI [.agg (bA x)] s (.bool x.none) s:=by
 refine aI.pure ?_ (by simp [D.bI,D.ok,kl]) rfl s
 unfold S0
 generalize h:Ex.none x=p
 unfold Ex.none at h
 refine aI.go yN rfl fun B Q hB hQ=> ?_
 have⟨hD,hJ,hP,hY⟩:=cf
 repeat' (first
 | simp only [go_sem,hD,hJ,hP,hY]
 | (with_reducible first | refine cD fun hc=> ?_ | refine cE fun hc=> ?_ | refine cG (fun hc=> ?_) fun hc=> ?_) <;> (try simp only [hc,bs, ↓reduceIte]at h) <;> try simp only [hc]
 | (with_reducible refine aJ hQ ?_;exact ju)
 | (cases h;done))
def n3 (t:aD) (is:Bool):Bool:=(is && isName t) || (!is && t == [])
theorem vj (t:aD) (is:Bool) (hl:t.length<4611686018427387904) (s:St):aI Try.prog kT [.str t, .bool is] s (.bool (n3 t is)) s:=by
 refine aI.pure ?_ rfl rfl s
 have hn:=tB t hl
 unfold S0
 generalize h:n3 t is=p
 unfold n3 at h
 refine aI.go xj rfl fun B Q hB hQ=> ?_
 have⟨hD,hJ,hP,hY⟩:=cf
 repeat' (first
 | simp only [go_sem,hD,hJ,hP,hY]
 | (with_reducible refine CU (hn _) ?_)
 | (with_reducible first | refine cD fun hc=> ?_ | refine cE fun hc=> ?_ | refine cG (fun hc=> ?_) fun hc=> ?_) <;> (try simp only [hc,bs, ↓reduceIte]at h) <;> try simp only [hc]
 | (with_reducible refine aJ hQ ?_;exact ju)
 | (cases h;done))
def pC (x:Ex) (is:Bool):Bool:=(is && x.dp 20) || (!is && x.none)
theorem B7 {x:Ex} (is:Bool) (hx:x.size<4611686018427387904) (ht:x.texts) (s:St):aI Try.prog mB [.agg (bA x), .bool is] s (.bool (pC x is)) s:=by
 refine aI.pure ?_ (by simp [D.bI,D.ok,kl]) rfl s
 have hm:=wm hx ht
 unfold S0
 generalize h:pC x is=p
 unfold pC at h
 refine aI.go xk rfl fun B Q hB hQ=> ?_
 have⟨hD,hJ,hP,hY⟩:=cf
 repeat' (first
 | simp only [go_sem,hD,hJ,hP,hY]
 | (with_reducible refine CU (hm _) ?_)
 | (with_reducible refine CU (LK _ _) ?_)
 | (with_reducible first | refine cD fun hc=> ?_ | refine cE fun hc=> ?_ | refine cG (fun hc=> ?_) fun hc=> ?_) <;> (try simp only [hc,bs, ↓reduceIte]at h) <;> try simp only [hc]
 | (with_reducible refine aJ hQ ?_;exact ju)
 | (cases h;done))
def la:List Ar→Bool
 | []=>true
 | a::l=>if !(n3 a.name a.ref) || !(pC a.x !a.ref)then false else la l
theorem I0 {l:List Ar} (hl:l.length<4611686018427387904) (hs : ∀ a∈l,a.x.size<4611686018427387904∧a.x.texts∧a.name.length<4611686018427387904) (s:St) :
 aI Try.prog oq [.slice .shared 6 (l.map c7)] s (.bool (la l)) s:=by
 refine aI.pure ?_ (by simp [D.bI,D.ok,za,Tag.ok]) rfl s
 unfold S0
 generalize h:la l=p
 refine aI.go wg rfl fun B Q hB hQ=> ?_
 have⟨hD,hJ,hP,hY⟩:=cf
 repeat' (first
 | simp only [go_sem,hD,hJ,hP,hY]
 | (with_reducible first | refine cD fun hc=> ?_ | refine cE fun hc=> ?_ | refine cG (fun hc=> ?_) fun hc=> ?_) <;> (try simp only [hc,bs, ↓reduceIte]at h) <;> try simp only [hc]
 | (with_reducible refine aJ hQ ?_;exact ju)
 | (cases h;done))
 refine dF 0 0 (bp.ind (ι:=List Ar×Nat) (fun i=>l.drop i.2=i.1∧la i.1=p) (fun i=>i.1.length)
  (fun i=> [(5, .slice .shared 6 (l.map c7)),(6, .int .i64 (l.length:Int)),(7, .int .i64 (i.2:Int))]) (fun i=>⟨[],[]⟩) ?_ (l,0) ⟨rfl,h⟩)
 rintro⟨rest,k⟩ ⟨h1,h⟩ IH
 dsimp only at h1 h
 cases rest with
 | nil=>
  have hD:=drop_nil h1
  simp only [la]at h
  repeat' (first
 | simp only [go_sem,hD,hJ,hP,hY]
 | (with_reducible first | refine cD fun hc=> ?_ | refine cE fun hc=> ?_ | refine cG (fun hc=> ?_) fun hc=> ?_) <;> (try simp only [hc,bs, ↓reduceIte]at h) <;> try simp only [hc]
 | (with_reducible refine aJ hQ ?_;exact ju)
 | (cases h;done))
 | cons a rest=>
  obtain⟨hJ,g2,hD,g4⟩:=drop_cons h1
  have hP:k<4611686018427387904:=by omega
  obtain⟨a1,a2,a3⟩:=hs a (List.mem_of_getElem? hJ)
  have hn:=fun b s=>vj a.name b a3 s
  have hw:=fun b s=>B7 b a1 a2 s
  simp only [la]at h
  repeat' (first
 | simp only [go_sem,hD,hJ,hP,hY]
 | (with_reducible refine CU (hn _ _) ?_)
 | (with_reducible refine CU (hw _ _) ?_)
 | (with_reducible first | refine cD fun hc=> ?_ | refine cE fun hc=> ?_ | refine cG (fun hc=> ?_) fun hc=> ?_) <;> (try simp only [hc,bs, ↓reduceIte]at h) <;> try simp only [hc]
 | (with_reducible refine aJ hQ ?_;exact ju)
 | (cases h;done))
  refine dF 0 0 (IH (rest,k+1) ⟨g2,h⟩ (Nat.lt_succ_self _))
def Sm.flags (s:Sm):Option (Bool×Bool×Bool×Bool×Bool×Bool):=
 if s.kind==1 then some (true,false,true,s.has,false,false)
 else if s.kind==2 || s.kind==10 then some (true,false,false,s.has,false,false)
 else if s.kind==3 then some (false,false,true,s.has,false,false)
 else if s.kind==4 then some (!(s.name == []),true,false,s.has,false,false)
 else if s.kind==5 then some (false,false,true,s.has,true,true)
 else if s.kind==6 then some (false,false,true,s.has,true,false)
 else if s.kind==9 then some (false,false,s.has,false,false,false)
 else if s.kind==7 || s.kind==8 then some (false,false,false,s.has,false,false)
 else none
def Sm.zf (s:Sm) (nm pr x:Bool):Bool:=if !(n3 s.name nm) || !(n3 s.proc pr) || !(pC s.x x)then false else la s.args
def Sm.zg (s:Sm) (f:Bool×Bool×Bool×Bool×Bool×Bool):Bool:=
 if f.2.2.2.1 || (!f.2.2.2.2.1 && decide ((s.aZ.length:Int) > 0)) || (!f.2.2.2.2.2 && decide ((s.aQ.length:Int) > 0)) || (!(s.kind==4) && decide ((s.args.length:Int) > 0))then false
 else s.zf f.1 f.2.1 f.2.2.1
def Sm.fields (s:Sm):Bool:=match s.flags with
 | none=>false
 | some f=>s.zg f
section
variable {v:Sm} {B:fc} {Q:Exit→Tm→St→Prop} {p:Bool}
theorem I2 {nm pr x:Bool} (hf:v.oD) (hB:B.s = ⟨[],[]⟩) (hQ:ni 0 0 [(2,none)] (.bool p) ⟨[],[]⟩=Q) (h:v.zf nm pr x=p) :
 Sem Try.prog B 93 Ri Q [(1, .ptr 0 0),(3, .bool nm),(4, .bool pr),(5, .bool x)] ⟨[bf v],[]⟩:=by
 have h1:=fun b s=>vj v.name b hf.name s
 have h2:=fun b s=>vj v.proc b hf.proc s
 have h3:=fun b s=>B7 b hf.x hf.xt s
 have h4:=fun s=>I0 hf.SY hf.arg s
 unfold Sm.zf at h
 have⟨hD,hJ,hP,hY⟩:=cf
 refine gq ?_
 repeat' (first
 | simp only [go_sem,hD,hJ,hP,hY]
 | (with_reducible refine CU (h1 _ _) ?_)
 | (with_reducible refine CU (h2 _ _) ?_)
 | (with_reducible refine CU (h3 _ _) ?_)
 | (with_reducible refine CU (h4 _) ?_)
 | (with_reducible first | refine cD fun hc=> ?_ | refine cE fun hc=> ?_ | refine cG (fun hc=> ?_) fun hc=> ?_) <;> (try simp only [hc,bs, ↓reduceIte]at h) <;> try simp only [hc]
 | (with_reducible refine aJ hQ ?_;exact ju)
 | (cases h;done))
theorem I3 {nm pr x has th ot ar:Bool} (hf:v.oD) (hB:B.s = ⟨[],[]⟩) (hQ:ni 0 0 [(2,none)] (.bool p) ⟨[],[]⟩=Q) (e:(v.kind==4)=ar) (h:v.zg (nm,pr,x,has,th,ot)=p) :
 Sem Try.prog B 93 Rj Q [(1, .ptr 0 0),(3, .bool nm),(4, .bool pr),(5, .bool x),(6, .bool has),(7, .bool th),(8, .bool ot),(9, .bool ar)] ⟨[bf v],[]⟩:=by
 simp only [Sm.zg,e]at h
 have⟨hD,hJ,hP,hY⟩:=cf
 refine Sem.og ?_
 repeat' (first
 | simp only [go_sem,hD,hJ,hP,hY]
 | (with_reducible first | refine cD fun hc=> ?_ | refine cE fun hc=> ?_ | refine cG (fun hc=> ?_) fun hc=> ?_) <;> (try simp only [hc,bs, ↓reduceIte]at h) <;> try simp only [hc]
 | (with_reducible refine aJ hQ ?_;(try cases h);simp only [az,aB,dv,dw,go_sem,hD,hJ,hP,hY];repeat' (first | exact Ok.out | with_reducible refine aO ?_ ?_ | (simp;done)))
 | (cases h;done))
 all_goals
  refine Sem.re _ _ 1 0 (by rw [hB];exact uK rfl) (by rw [hB];exact uK rfl) ?_ ?_ (I2 hf hB hQ h)
  ·(simp only [go_sem,hD,hJ,hP,hY];repeat' (first | exact Ok.out | with_reducible refine aO ?_ ?_))
  ·(simp only [go_sem,hD,hJ,hP,hY];repeat' (first | exact Ok.out | with_reducible refine aO ?_ ?_))
theorem I4 {ar:Bool} (hf:v.oD) (hB:B.s = ⟨[],[]⟩) (hQ:ni 0 0 [(2,none)] (.bool p) ⟨[],[]⟩=Q) (e:(v.kind==4)=ar) (h:v.fields=p) :
 Sem Try.prog B 93 NP Q [(1, .ptr 0 0),(3, .bool false),(4, .bool false),(5, .bool false),(6, .bool v.has),(7, .bool false),(8, .bool false),(9, .bool ar)] ⟨[bf v],[]⟩:=by
 simp only [Sm.fields,Sm.flags]at h
 have⟨hD,hJ,hP,hY⟩:=cf
 refine Sem.og ?_
 repeat' (first
 | simp only [go_sem,hD,hJ,hP,hY]
 | (with_reducible first | refine cD fun hc=> ?_ | refine cE fun hc=> ?_ | refine cG (fun hc=> ?_) fun hc=> ?_) <;> (try simp only [hc,bs, ↓reduceIte]at h) <;> try simp only [hc]
 | (with_reducible refine aJ hQ ?_;(try cases h);simp only [az,aB,dv,dw,go_sem,hD,hJ,hP,hY];repeat' (first | exact Ok.out | with_reducible refine aO ?_ ?_ | (simp;done)))
 | (cases h;done))
 all_goals
  refine Sem.re _ _ 1 0 (by rw [hB];exact uK rfl) (by rw [hB];exact uK rfl) ?_ ?_ (I3 hf hB hQ e h)
  ·(simp only [go_sem,hD,hJ,hP,hY];repeat' (first | exact Ok.out | with_reducible refine aO ?_ ?_))
  ·(simp only [go_sem,hD,hJ,hP,hY];repeat' (first | exact Ok.out | with_reducible refine aO ?_ ?_))
end
theorem I5 {v:Sm} (hf:v.oD) (s:St):aI Try.prog oo [.agg (bf v)] s (.bool v.fields) s:=by
 refine aI.pure ?_ (by simp [D.bI,D.ok,mn]) rfl s
 unfold S0
 refine aI.Zn we rfl fun B Q hB hQ=> ?_
 have⟨hD,hJ,hP,hY⟩:=cf
 refine Sem.seq (b:=Rl) (gq ?_)
 repeat' (first
 | simp only [go_sem,hD,hJ,hP,hY]
 | (with_reducible first | refine cD fun hc=> ?_ | refine cE fun hc=> ?_ | refine cG (fun hc=> ?_) fun hc=> ?_) <;> (try simp only [hc,bs, ↓reduceIte]at h) <;> try simp only [hc]
 | (with_reducible refine aJ hQ ?_;exact ju)
 | (cases h;done))
 refine Sem.seq (b:=Rk) (gq ?_)
 repeat' (first
 | simp only [go_sem,hD,hJ,hP,hY]
 | (with_reducible first | refine cD fun hc=> ?_ | refine cE fun hc=> ?_ | refine cG (fun hc=> ?_) fun hc=> ?_) <;> (try simp only [hc,bs, ↓reduceIte]at h) <;> try simp only [hc]
 | (with_reducible refine aJ hQ ?_;exact ju)
 | (cases h;done))
 refine Sem.seq (b:=NP) (gq ?_)
 repeat' (first
 | simp only [go_sem,hD,hJ,hP,hY]
 | (with_reducible first | refine cD fun hc=> ?_ | refine cE fun hc=> ?_ | refine cG (fun hc=> ?_) fun hc=> ?_) <;> (try simp only [hc,bs, ↓reduceIte]at h) <;> try simp only [hc]
 | (with_reducible refine aJ hQ ?_;exact ju)
 | (cases h;done))
 refine Sem.re _ _ 1 0 (by rw [hB];exact uK rfl) (by rw [hB];exact uK rfl) ?_ ?_ (I4 hf hB hQ rfl rfl)
 ·(simp only [go_sem,hD,hJ,hP,hY];repeat' (first | exact Ok.out | with_reducible refine aO ?_ ?_))
 ·(simp only [go_sem,hD,hJ,hP,hY];repeat' (first | exact Ok.out | with_reducible refine aO ?_ ?_))
end Go.Abs

/-! RefMay3 -/

namespace Go.Abs
set_option maxRecDepth 8000
open Go.Proofs
def dP (i:It):List D:= [.int .i64 i.s.id, .int .i64 i.s.kind, .slice .shared 1 (i.s.labels.map encStr), .str i.s.name, .str i.s.proc,
 .int .i64 i.s.x.op, .int .i64 i.s.x.n, .str i.s.x.name, .slice .shared 4 (i.s.x.kids.map bA), .bool i.s.has, .slice .shared 6 (i.s.args.map c7), .slice .shared 13 (i.s.aZ.map bf), .slice .shared 13 (i.s.aQ.map bf), .int .i64 i.deep, .int .i64 i.bC, .bool i.aQ]
theorem I6 (i:It):D.bI 0 0 (dP i)=true:=by simp [dP,D.bI,D.ok,Tag.ok,fi,Kj,za,oT]
theorem wo (l:List It):D.gG 0 0 (l.map dP)=true:=ff I6 l
theorem Qj (n m:Nat) (l:List It):D.gF n m (l.map dP)=l.map dP:=jv I6 n m l
theorem Qk (n m:Nat) (i:It):D.fh n m (dP i)=dP i:=fu n m _ (I6 i)
theorem Ql (x:It):(dP x).length=16:=nd rfl
theorem N1 (x:It):List.take 13 (dP x)=bf x.s:=by simp only [dP,cr];rfl
theorem I7 (x:It):(dP x)[0]? = some (.int .i64 x.s.id):=nd rfl
theorem Gm (x:It):(dP x)[13]? = some (.int .i64 x.deep):=nd rfl
theorem xp (s:Sm) (d n:Int) (e:Bool):dP ⟨s,d,n,e⟩ = [.int .i64 s.id, .int .i64 s.kind, .slice .shared 1 (s.labels.map encStr), .str s.name, .str s.proc,
 .int .i64 s.x.op, .int .i64 s.x.n, .str s.x.name, .slice .shared 4 (s.x.kids.map bA), .bool s.has, .slice .shared 6 (s.args.map c7), .slice .shared 13 (s.aZ.map bf), .slice .shared 13 (s.aQ.map bf), .int .i64 d, .int .i64 n, .bool e]:=nd rfl
attribute [go_sem] Qj Qk Ql N1 I7 Gm
theorem Aw (deep bC:Int) (aQ:Bool) (out:List It) (s:Sm) :
 fz deep bC aQ out s=if decide (deep≤12)then cq (deep+1) s.id true (cq (deep+1) s.id false (out++ [⟨s,deep,bC,aQ⟩]) s.aZ) s.aQ else out++ [⟨s,deep,bC,aQ⟩]:=by
 cases s;simp only [fz]
mutual
theorem Gn (deep bC:Int) (aQ:Bool) (out:List It) (h:out.length≤200) : ∀ s:Sm,(fz deep bC aQ out s).length≤201
 | ⟨id,kind,labels,name,proc,x,has,args,aZ,e⟩=>by
  simp only [fz]
  have h1:(out++ [(⟨⟨id,kind,labels,name,proc,x,has,args,aZ,e⟩,deep,bC,aQ⟩:It)]).length≤201:=by simp;omega
  split
  ·exact gT _ _ _ _ (gT _ _ _ _ h1 aZ) e
  ·exact h1
theorem gT (deep bC:Int) (aQ:Bool) (out:List It) (h:out.length≤201) : ∀ l:List Sm,(cq deep bC aQ out l).length≤201
 | []=>by simpa only [cq]using h
 | s::l=>by
  simp only [cq]
  split
  ·rename_i hc
   simp only [decide_eq_true_eq]at hc
   exact gT deep bC aQ _ (Gn _ _ _ _ (by omega) s) l
  ·exact h
end
abbrev Gp (N:Nat):Prop:=∀ (l:List Sm) (deep bC:Int) (aQ:Bool) (out:List It),Sm.aT l<N→0≤deep→deep≤13→out.length≤201→∀ {s:St} {t:Nat},s.av[t]? = some (some out.length)→
 aI Try.prog iZ [.slice .shared 13 (l.map bf), .int .i64 deep, .int .i64 bC, .bool aQ, .slice (.tok t) 16 (out.map dP)] s (.slice (.tok t) 16 ((cq deep bC aQ out l).map dP)) ⟨s.au,s.av.set t (some (cq deep bC aQ out l).length)⟩
theorem N2 {N:Nat} (hN:N<4611686018427387904) (ih:Gp N) {l:List Sm} {deep bC:Int} {aQ:Bool} {out:List It} (hs:Sm.aT l<N+1) (x3:0≤deep) (hd:deep≤13) (ho:out.length≤201) :
 aI Try.prog iZ [.slice .shared 13 (l.map bf), .int .i64 deep, .int .i64 bC, .bool aQ, .slice (.tok 0) 16 (out.map dP)] ⟨[],[some out.length]⟩ (.slice (.tok 0) 16 ((cq deep bC aQ out l).map dP)) ⟨[],[some (cq deep bC aQ out l).length]⟩:=by
 generalize hR:cq deep bC aQ out l=R
 refine aI.go sr rfl fun B Q hB hQ=> ?_
 have⟨hD,hJ,hP,hY⟩:=cf
 repeat' (first
 | simp only [go_sem,hD,hJ,hP,hY]
 | (with_reducible refine aJ hQ ?_;simp only [az,aB,Option.some.injEq,exists_eq_left',go_sem,hD,hJ,hP,hY];repeat' (first | exact Ok.out | with_reducible refine aO ?_ ?_ | (simp;done))))
 refine dF 0 1 (bp.ind (ι:=List Sm×Nat×List It×Nat) (fun i=>l.drop i.2.1=i.1∧cq deep bC aQ i.2.2.1 i.1=R∧i.2.2.1.length≤201∧i.2.2.2=i.2.2.1.length) (fun i=>i.1.length)
  (fun i=> [(0, .slice .shared 13 (l.map bf)),(1, .int .i64 deep),(2, .int .i64 bC),(3, .bool aQ),(4, .slice (.tok 0) 16 (i.2.2.1.map dP)),(11, .int .i64 (i.2.1:Int))]) (fun i=>⟨[],[some i.2.2.2]⟩) ?_ (l,0,out,out.length) ⟨rfl,hR,ho,rfl⟩)
 rintro⟨rest,k,out,n⟩ ⟨h1,h2,h3,h4⟩ IH
 dsimp only at h1 h2 h3 h4
 subst h4
 have hlen:l.length<4611686018427387904:=by have:=Sm.cP l;omega
 cases rest with
 | nil=>
  have hD:=drop_nil h1
  simp only [cq]at h2
  subst h2
  repeat' (first
 | simp only [go_sem,hD,hJ,hP,hY]
 | (with_reducible refine aJ hQ ?_;simp only [az,aB,Option.some.injEq,exists_eq_left',go_sem,hD,hJ,hP,hY];repeat' (first | exact Ok.out | with_reducible refine aO ?_ ?_ | (simp;done))))
 | cons v rest=>
  obtain⟨hJ,g2,hD,g4⟩:=drop_cons h1
  have bB:k<4611686018427387904:=by omega
  have hv:=Sm.b6 (List.mem_of_getElem? hJ)
  have kM:Sm.aT v.aZ<N∧Sm.aT v.aQ<N:=by
   obtain⟨_,_,_,_,_,_,_,_,_,_⟩:=v
   simp only [Sm.size]at hv ⊢;omega
  simp only [cq]at h2
  by_cases hc:out.length≤200
  ·have c1:decide ((out.length:Int)≤200)=true:=by simp;omega
   simp only [c1, ↓reduceIte,Aw]at h2
   have hP:(out.length+1)*233≤bH:=by unfold bH;omega
   have kv:(out++ [(⟨v,deep,bC,aQ⟩:It)]).length≤201:=by simp;omega
   have hw:IntKind.wrap .i64 (deep+1)=deep+1:=dt (by omega) (by omega)
   by_cases S2:deep≤12
   ·have c2:decide (deep≤12)=true:=by simp;omega
    simp only [c2, ↓reduceIte]at h2
    have f1:=fun {s:St} {t:Nat} (ht:s.av[t]? = some (some (out++ [(⟨v,deep,bC,aQ⟩:It)]).length))=>ih v.aZ (deep+1) v.id false _ kM.1 (by omega) (by omega) kv ht
    have f2:=fun {s:St} {t:Nat} (ht:s.av[t]? = some (some (cq (deep+1) v.id false (out++ [(⟨v,deep,bC,aQ⟩:It)]) v.aZ).length))=>ih v.aQ (deep+1) v.id true _ kM.2 (by omega) (by omega) (gT _ _ _ _ kv _) ht
    simp only [List.map_append,List.map_cons,List.map_nil,xp,List.length_append,List.length_cons,List.length_nil]at f1
    repeat' (first
 | simp only [go_sem,hD,hJ,hP,hY,c1,c2,hw,cr]
 | (with_reducible refine CU (f1 (by with_unfolding_all rfl)) ?_)
 | (with_reducible refine CU (f2 (by with_unfolding_all rfl)) ?_)
 | (with_reducible refine aJ hQ ?_;simp only [az,aB,Option.some.injEq,exists_eq_left',go_sem,hD,hJ,hP,hY];repeat' (first | exact Ok.out | with_reducible refine aO ?_ ?_ | (simp;done))))
    refine dA 0 1 ?_ ?_ (IH (rest,k+1,_,_) ⟨g2,h2,gT _ _ _ _ (gT _ _ _ _ kv _) _,rfl⟩ (Nat.lt_succ_self _))
    ·(simp only [go_sem,hD,hJ,hP,hY,aH bB];try exact bw)
    ·(simp only [go_sem,hD,hJ,hP,hY,aH bB];try exact bw)
   ·have c2:decide (deep≤12)=false:=by simp;omega
    simp only [c2,Bool.false_eq_true, ↓reduceIte]at h2
    repeat' (first
 | simp only [go_sem,hD,hJ,hP,hY,c1,c2,cr]
 | (with_reducible refine aJ hQ ?_;simp only [az,aB,Option.some.injEq,exists_eq_left',go_sem,hD,hJ,hP,hY];repeat' (first | exact Ok.out | with_reducible refine aO ?_ ?_ | (simp;done))))
    refine dA 0 1 ?_ ?_ (IH (rest,k+1,out++ [⟨v,deep,bC,aQ⟩],out.length+1) ⟨g2,h2,kv,by simp⟩ (Nat.lt_succ_self _))
    ·(simp only [go_sem,hD,hJ,hP,hY,aH bB,xp,List.map_append,List.map_cons,List.map_nil];try exact bw)
    ·(simp only [go_sem,hD,hJ,hP,hY,aH bB,xp,List.map_append,List.map_cons,List.map_nil];try exact bw)
  ·have c1:decide ((out.length:Int)≤200)=false:=by simp;omega
   simp only [c1,Bool.false_eq_true, ↓reduceIte]at h2
   subst h2
   repeat' (first
 | simp only [go_sem,hD,hJ,hP,hY,c1]
 | (with_reducible refine aJ hQ ?_;simp only [az,aB,Option.some.injEq,exists_eq_left',go_sem,hD,hJ,hP,hY];repeat' (first | exact Ok.out | with_reducible refine aO ?_ ?_ | (simp;done))))
theorem I8 : ∀ N,N<4611686018427387904→Gp N:=by
 intro N
 induction N with
 | zero=>exact fun _ l deep bC aQ out h=>absurd h (Nat.not_lt_zero _)
 | succ N ih=>
  intro h l deep bC aQ out hs x3 hd ho s t ht
  exact(N2 (by omega) (ih (by omega)) hs x3 hd ho).MS (pre:= [_,_,_,_]) (post:= []) (by simp [D.bI,D.ok,Tag.ok,oT]) rfl (wo out) (wo _) ht
theorem I9 {l:List Sm} (hs:Sm.aT l<4611686018427387000) (s:St) :
 aI Try.prog iZ [.slice .shared 13 (l.map bf), .int .i64 1, .int .i64 0, .bool false, .slice .full 0 []] s (.slice .shared 16 ((cq 1 0 false [] l).map dP)) s:=by
 refine aI.pure ?_ (by simp [D.bI,D.ok,Tag.ok,oT,D.gG]) (by simp [D.ok,Tag.ok,wo]) s
 obtain⟨N,hN⟩ : ∃ N,N=Sm.aT l:=⟨_,rfl⟩
 have ih:=I8 N (by omega)
 replace hs:Sm.aT l<N+1∧N<4611686018427387000:=by omega
 obtain⟨hs,hN⟩:=hs
 generalize hR:cq 1 0 false [] l=R
 obtain⟨deep,Eo⟩ : ∃ d:Int,d=1:=⟨_,rfl⟩
 obtain⟨bC,Ja⟩ : ∃ d:Int,d=0:=⟨_,rfl⟩
 obtain⟨aQ,Jb⟩ : ∃ d:Bool,d=false:=⟨_,rfl⟩
 rw [← Eo, ← Ja, ← Jb]at hR
 rw [← Eo, ← Ja, ← Jb]
 have x3:0≤deep:=by omega
 have hd:deep≤13:=by omega
 clear Eo Ja Jb
 have ho:([] : List It).length≤201:=Nat.zero_le _
 unfold S0
 refine aI.go sr rfl fun B Q hB hQ=> ?_
 have⟨hD,hJ,hP,hY⟩:=cf
 repeat' (first
 | simp only [go_sem,hD,hJ,hP,hY]
 | (with_reducible refine aJ hQ ?_;simp only [az,aB,Option.some.injEq,exists_eq_left',go_sem,hD,hJ,hP,hY];repeat' (first | exact Ok.out | with_reducible refine aO ?_ ?_ | (simp;done))))
 refine bp.qB 4 16 rfl ?_
 simp only [go_sem,hD,hJ,hP,hY]
 refine dF 0 1 (bp.ind (ι:=List Sm×Nat×List It×Nat) (fun i=>l.drop i.2.1=i.1∧cq deep bC aQ i.2.2.1 i.1=R∧i.2.2.1.length≤201∧i.2.2.2=i.2.2.1.length) (fun i=>i.1.length)
  (fun i=> [(0, .slice .shared 13 (l.map bf)),(1, .int .i64 deep),(2, .int .i64 bC),(3, .bool aQ),(4, .slice (.tok 0) 16 (i.2.2.1.map dP)),(11, .int .i64 (i.2.1:Int))]) (fun i=>⟨[],[some i.2.2.2]⟩) ?_ (l,0,[],0) ⟨rfl,hR,ho,rfl⟩)
 rintro⟨rest,k,out,n⟩ ⟨h1,h2,h3,h4⟩ IH
 dsimp only at h1 h2 h3 h4
 subst h4
 have hlen:l.length<4611686018427387904:=by have:=Sm.cP l;omega
 cases rest with
 | nil=>
  have hD:=drop_nil h1
  simp only [cq]at h2
  subst h2
  repeat' (first
 | simp only [go_sem,hD,hJ,hP,hY]
 | (with_reducible refine aJ hQ ?_;simp only [az,aB,Option.some.injEq,exists_eq_left',go_sem,hD,hJ,hP,hY];repeat' (first | exact Ok.out | with_reducible refine aO ?_ ?_ | (simp;done))))
 | cons v rest=>
  obtain⟨hJ,g2,hD,g4⟩:=drop_cons h1
  have bB:k<4611686018427387904:=by omega
  have hv:=Sm.b6 (List.mem_of_getElem? hJ)
  have kM:Sm.aT v.aZ<N∧Sm.aT v.aQ<N:=by
   obtain⟨_,_,_,_,_,_,_,_,_,_⟩:=v
   simp only [Sm.size]at hv ⊢;omega
  simp only [cq]at h2
  by_cases hc:out.length≤200
  ·have c1:decide ((out.length:Int)≤200)=true:=by simp;omega
   simp only [c1, ↓reduceIte,Aw]at h2
   have hP:(out.length+1)*233≤bH:=by unfold bH;omega
   have kv:(out++ [(⟨v,deep,bC,aQ⟩:It)]).length≤201:=by simp;omega
   have hw:IntKind.wrap .i64 (deep+1)=deep+1:=dt (by omega) (by omega)
   by_cases S2:deep≤12
   ·have c2:decide (deep≤12)=true:=by simp;omega
    simp only [c2, ↓reduceIte]at h2
    have f1:=fun {s:St} {t:Nat} (ht:s.av[t]? = some (some (out++ [(⟨v,deep,bC,aQ⟩:It)]).length))=>ih v.aZ (deep+1) v.id false _ kM.1 (by omega) (by omega) kv ht
    have f2:=fun {s:St} {t:Nat} (ht:s.av[t]? = some (some (cq (deep+1) v.id false (out++ [(⟨v,deep,bC,aQ⟩:It)]) v.aZ).length))=>ih v.aQ (deep+1) v.id true _ kM.2 (by omega) (by omega) (gT _ _ _ _ kv _) ht
    simp only [List.map_append,List.map_cons,List.map_nil,xp,List.length_append,List.length_cons,List.length_nil]at f1
    repeat' (first
 | simp only [go_sem,hD,hJ,hP,hY,c1,c2,hw,cr]
 | (with_reducible refine CU (f1 (by with_unfolding_all rfl)) ?_)
 | (with_reducible refine CU (f2 (by with_unfolding_all rfl)) ?_)
 | (with_reducible refine aJ hQ ?_;simp only [az,aB,Option.some.injEq,exists_eq_left',go_sem,hD,hJ,hP,hY];repeat' (first | exact Ok.out | with_reducible refine aO ?_ ?_ | (simp;done))))
    refine dA 0 1 ?_ ?_ (IH (rest,k+1,_,_) ⟨g2,h2,gT _ _ _ _ (gT _ _ _ _ kv _) _,rfl⟩ (Nat.lt_succ_self _))
    ·(simp only [go_sem,hD,hJ,hP,hY,aH bB];try exact bw)
    ·(simp only [go_sem,hD,hJ,hP,hY,aH bB];try exact bw)
   ·have c2:decide (deep≤12)=false:=by simp;omega
    simp only [c2,Bool.false_eq_true, ↓reduceIte]at h2
    repeat' (first
 | simp only [go_sem,hD,hJ,hP,hY,c1,c2,cr]
 | (with_reducible refine aJ hQ ?_;simp only [az,aB,Option.some.injEq,exists_eq_left',go_sem,hD,hJ,hP,hY];repeat' (first | exact Ok.out | with_reducible refine aO ?_ ?_ | (simp;done))))
    refine dA 0 1 ?_ ?_ (IH (rest,k+1,out++ [⟨v,deep,bC,aQ⟩],out.length+1) ⟨g2,h2,kv,by simp⟩ (Nat.lt_succ_self _))
    ·(simp only [go_sem,hD,hJ,hP,hY,aH bB,xp,List.map_append,List.map_cons,List.map_nil];try exact bw)
    ·(simp only [go_sem,hD,hJ,hP,hY,aH bB,xp,List.map_append,List.map_cons,List.map_nil];try exact bw)
  ·have c1:decide ((out.length:Int)≤200)=false:=by simp;omega
   simp only [c1,Bool.false_eq_true, ↓reduceIte]at h2
   subst h2
   repeat' (first
 | simp only [go_sem,hD,hJ,hP,hY,c1]
 | (with_reducible refine aJ hQ ?_;simp only [az,aB,Option.some.injEq,exists_eq_left',go_sem,hD,hJ,hP,hY];repeat' (first | exact Ok.out | with_reducible refine aO ?_ ?_ | (simp;done))))
theorem N3 {f:Pc} (hs:Sm.aT f.body<4611686018427387000) (s:St):aI Try.prog qG [.agg (bL f)] s (.slice .shared 16 (f.flat.map dP)) s:=by
 refine aI.pure ?_ (by simp only [D.bI,D.ok,tn];rfl) (by simp [D.ok,Tag.ok,wo]) s
 have h:=fun s=>I9 hs s
 unfold S0
 refine aI.go yJ rfl fun B Q hB hQ=> ?_
 have⟨hD,hJ,hP,hY⟩:=cf
 repeat' (first
 | simp only [go_sem,hD,hJ,hP,hY,Pc.flat]
 | (with_reducible refine CU (h _) ?_)
 | (with_reducible first | refine cD fun hc=> ?_ | refine cE fun hc=> ?_ | refine cG (fun hc=> ?_) fun hc=> ?_) <;> (try simp only [hc,bs, ↓reduceIte]at h) <;> try simp only [hc]
 | (with_reducible refine aJ hQ ?_;simp only [az,aB,dv,dw,go_sem,hD,hJ,hP,hY,Pc.flat];repeat' (first | exact Ok.out | with_reducible refine aO ?_ ?_ | (simp;done))))
end Go.Abs

/-! RefMay4 -/

namespace Go.Abs
set_option maxRecDepth 8000
open Go.Proofs
theorem Pc.Jc (f:Pc):f.flat.length≤201:=gT _ _ _ _ (Nat.zero_le _) _
theorem Qm {p:Pg} (hs:Pc.aT p.procs<4611686018427387000) (s:St):aI Try.prog rI [.agg (bS p)] s (.slice .shared 16 (p.all.map dP)) s:=by
 refine aI.pure ?_ (by simp only [D.bI,D.ok,km];rfl) (by simp [D.ok,Tag.ok,wo]) s
 have hlen:p.procs.length<4611686018427387904:=by have:=Pc.cP p.procs;omega
 generalize hR:p.all=R
 unfold Pg.all at hR
 unfold S0
 refine aI.go An rfl fun B Q hB hQ=> ?_
 have⟨hD,hJ,hP,hY⟩:=cf
 repeat' (first
 | simp only [go_sem,hD,hJ,hP,hY]
 | (with_reducible refine aJ hQ ?_;simp only [az,aB,dv,dw,go_sem,hD,hJ,hP,hY];repeat' (first | exact Ok.out | with_reducible refine aO ?_ ?_ | (simp;done))))
 refine bp.qB 3 16 rfl ?_
 simp only [go_sem,hD,hJ,hP,hY]
 refine dF 1 1 (bp.ind (ι:=List Pc×Nat×List It×Nat) (fun i=>p.procs.drop i.2.1=i.1∧allM i.2.2.1 i.1=R∧i.2.2.1.length≤200∧i.2.2.2=i.2.2.1.length) (fun i=>i.1.length)
  (fun i=> [(1, .ptr 0 0),(3, .slice (.tok 0) 16 (i.2.2.1.map dP)),(7, .slice .shared 5 (p.procs.map bL)),(8, .int .i64 (p.procs.length:Int)),(9, .int .i64 (i.2.1:Int))]) (fun i=>⟨[bS p],[some i.2.2.2]⟩) ?_ (p.procs,0,[],0) ⟨rfl,hR,Nat.zero_le _,rfl⟩)
 rintro⟨rest,k,out,n⟩ ⟨h1,h,h3,h4⟩ IH
 dsimp only at h1 h h3 h4
 subst h4
 cases rest with
 | nil=>
  have hD:=drop_nil h1
  simp only [allM]at h
  subst h
  repeat' (first
 | simp only [go_sem,hD,hJ,hP,hY]
 | (with_reducible refine aJ hQ ?_;simp only [az,aB,dv,dw,go_sem,hD,hJ,hP,hY];repeat' (first | exact Ok.out | with_reducible refine aO ?_ ?_ | (simp;done))))
 | cons f rest=>
  obtain⟨hJ,g2,hD,g4⟩:=drop_cons h1
  have bB:k<4611686018427387904:=by omega
  have hf:=Pc.b6 (List.mem_of_getElem? hJ)
  have hb:Sm.aT f.body<4611686018427387000:=by simp only [Pc.size]at hf;omega
  have kN:=fun s=>N3 hb s
  have aaP:=f.Jc
  have hP:(out.length+f.flat.length)*233≤bH:=by unfold bH;omega
  simp only [allM,List.length_append]at h
  have ez:=fun(o:List (List D))=>Ae (size:=16) (bytes:=232) (t:=0) (rows:=out.map dP) (new:=f.flat.map dP) (g:= .shared) (s:=⟨o,[some out.length]⟩) (by simpa using hP) (by simp)
  repeat' (first
 | simp only [go_sem,hD,hJ,hP,hY,ez]
 | (with_reducible refine CU (kN _) ?_)
 | (with_reducible first | refine cD fun hc=> ?_ | refine cE fun hc=> ?_ | refine cG (fun hc=> ?_) fun hc=> ?_) <;> (try simp only [hc,bs, ↓reduceIte]at h) <;> try simp only [hc]
 | (with_reducible refine aJ hQ ?_;(try cases h);simp only [az,aB,dv,dw,go_sem,hD,hJ,hP,hY,ez];repeat' (first | exact Ok.out | with_reducible refine aO ?_ ?_ | (simp;done))))
  refine dA 1 1 ?_ ?_ (IH (rest,k+1,out++f.flat,out.length+f.flat.length) ⟨g2,h,by rename_i hc;simp only [decide_eq_false_iff_not]at hc;simp only [List.length_append];omega,by simp⟩ (Nat.lt_succ_self _))
  ·(simp only [go_sem,hD,hJ,hP,hY,aH bB];try exact bw)
  ·(simp only [go_sem,hD,hJ,hP,hY,aH bB];try exact bw)
structure Pg.oD (p:Pg):Prop where
 sz:p.size<4611686018427387000
 Ax : ∀ t∈p.globals,t.length<4611686018427387904
 lJ : ∀ f∈p.procs,f.name.length<4611686018427387904∧(∀ t∈f.vars,t.length<4611686018427387904)∧(∀ t∈f.fin,t.length<4611686018427387904)∧∀ a∈f.params,a.name.length<4611686018427387904
 items : ∀ i∈p.all,i.s.oD
end Go.Abs

/-! TMay3 -/

namespace Go.Abs
set_option maxRecDepth 8000
open Go.Proofs
def gate (nest:Int) (len n:Nat) (r:Bool×Nat):Bool×Nat:=if decide (nest > 12) && decide ((len:Int) > 0)then(false,n)else r
mutual
def Sm.lp (nest:Int) (n:Nat):Sm→Bool×Nat
 | ⟨id,kind,labels,name,proc,x,has,args,aZ,aQ⟩=>
  if decide (((n+1:Nat):Int) > 200) || id != ((n+1:Nat):Int) || !(df labels) || !(Sm.fields ⟨id,kind,labels,name,proc,x,has,args,aZ,aQ⟩)then(false,n+1)
  else if !(gate (nest+1) aZ.length (n+1) (Sm.dm (nest+1) (n+1) aZ)).1 then(false,(gate (nest+1) aZ.length (n+1) (Sm.dm (nest+1) (n+1) aZ)).2)
  else gate (nest+1) aQ.length (gate (nest+1) aZ.length (n+1) (Sm.dm (nest+1) (n+1) aZ)).2 (Sm.dm (nest+1) (gate (nest+1) aZ.length (n+1) (Sm.dm (nest+1) (n+1) aZ)).2 aQ)
def Sm.dm (nest:Int) (n:Nat):List Sm→Bool×Nat
 | []=>(true,n)
 | s::l=>if !(Sm.lp nest n s).1 then(false,(Sm.lp nest n s).2)else Sm.dm nest (Sm.lp nest n s).2 l
end
def Sm.eC (nest:Int) (n:Nat) (l:List Sm):Bool×Nat:=gate nest l.length n (Sm.dm nest n l)
theorem xq (nest:Int) (n:Nat) (s:Sm):Sm.lp nest n s =
 if decide (((n+1:Nat):Int) > 200) || s.id != ((n+1:Nat):Int) || !(df s.labels) || !(s.fields)then(false,n+1)
 else if !(Sm.eC (nest+1) (n+1) s.aZ).1 then(false,(Sm.eC (nest+1) (n+1) s.aZ).2)
 else Sm.eC (nest+1) (Sm.eC (nest+1) (n+1) s.aZ).2 s.aQ:=by
 cases s;simp only [Sm.lp,Sm.eC];rfl
mutual
def Sm.qe:Sm→Prop
 | ⟨id,kind,labels,name,proc,x,has,args,aZ,aQ⟩=>Sm.oD ⟨id,kind,labels,name,proc,x,has,args,aZ,aQ⟩∧Sm.gx aZ∧Sm.gx aQ
def Sm.gx:List Sm→Prop
 | []=>True
 | s::l=>s.qe∧Sm.gx l
end
theorem vk (s:Sm):s.qe↔s.oD∧Sm.gx s.aZ∧Sm.gx s.aQ:=by cases s;simp only [Sm.qe]
theorem wq {s:Sm} : ∀ {l:List Sm},Sm.gx l→s∈l→s.qe
 | y::l,h,m=>by
  simp only [Sm.gx]at h
  rcases List.mem_cons.1 m with rfl | m
  ·exact h.1
  ·exact wq h.2 m
mutual
theorem LL (nest:Int) (n:Nat) : ∀ s:Sm,n≤201→(Sm.lp nest n s).2≤202∧((Sm.lp nest n s).1=true→(Sm.lp nest n s).2≤200)
 | ⟨id,kind,labels,name,proc,x,has,args,aZ,aQ⟩,hn=>by
  simp only [Sm.lp]
  split
  ·exact⟨by dsimp only;omega,fun h=>by cases h⟩
  rename_i hc
  simp only [Bool.or_eq_true,decide_eq_true_eq,not_or]at hc
  have sv:n+1≤200:=by omega
  have g1 : ∀ (nest:Int) (l:List Sm) (m:Nat),m≤200→(Sm.dm nest m l).2≤202∧((Sm.dm nest m l).1=true→(Sm.dm nest m l).2≤200)→
   (gate nest l.length m (Sm.dm nest m l)).2≤202∧((gate nest l.length m (Sm.dm nest m l)).1=true→(gate nest l.length m (Sm.dm nest m l)).2≤200):=by
   intro nest l m hm h
   unfold gate
   split
   ·exact⟨by dsimp only;omega,fun h=>by cases h⟩
   ·exact h
  have h1:=g1 (nest+1) aZ (n+1) sv (uf (nest+1) (n+1) aZ sv)
  split
  ·exact⟨h1.1,fun h=>by cases h⟩
  rename_i Md
  have h2:=h1.2 (by simpa using Md)
  exact g1 (nest+1) aQ _ h2 (uf (nest+1) _ aQ h2)
theorem uf (nest:Int) (n:Nat) : ∀ l:List Sm,n≤200→(Sm.dm nest n l).2≤202∧((Sm.dm nest n l).1=true→(Sm.dm nest n l).2≤200)
 | [],hn=>by simp only [Sm.dm];exact⟨by omega,fun _=>hn⟩
 | s::l,hn=>by
  simp only [Sm.dm]
  have h1:=LL nest n s (by omega)
  split
  ·exact⟨h1.1,fun h=>by cases h⟩
  rename_i hc
  exact uf nest _ l (h1.2 (by simpa using hc))
end
theorem xr {nest:Int} {n:Nat} {l:List Sm} (hn:n≤200):(Sm.eC nest n l).2≤202∧((Sm.eC nest n l).1=true→(Sm.eC nest n l).2≤200):=by
 unfold Sm.eC gate
 split
 ·exact⟨by dsimp only;omega,fun h=>by cases h⟩
 ·exact uf nest n l hn
theorem LM : ∀ (m:Nat) (l:List Sm),Sm.aT l≤m→Sm.aT l<4611686018427387000→Sm.gx l→∀ (nest:Int) (n:Nat),0≤nest→nest≤13→n≤200→
 aI Try.prog gu [.ptr 0 0, .slice .shared 13 (l.map bf), .int .i64 nest] ⟨[[.int .i64 n]],[]⟩ (.bool (Sm.eC nest n l).1) ⟨[[.int .i64 (Sm.eC nest n l).2]],[]⟩:=by
 intro m
 induction m with
 | zero=>
  intro l h hs hf nest n h0 Zr hn
  cases l with
  | nil=>
   have d1:decide ((0:Int) > 0)=false:=rfl
   have e:Sm.eC nest n [] = (true,n):=by simp [Sm.eC,gate,Sm.dm]
   have z:decide ((0:Int)<0)=false:=rfl
   rw [e]
   refine aI.go mH rfl fun B Q hB hQ=> ?_
   have⟨hD,hJ,hP,hY⟩:=cf
   repeat' (first
 | simp only [go_sem,hD,hJ,hP,hY,d1,z]
 | (with_reducible refine bp.yY ?_)
 | (with_reducible first | refine cD fun hc=> ?_ | refine cE fun hc=> ?_ | refine cG (fun hc=> ?_) fun hc=> ?_) <;> (try simp only [hc,bs, ↓reduceIte]at h) <;> try simp only [hc]
 | (with_reducible refine aJ hQ ?_;(try cases h);simp only [az,aB,dv,dw,go_sem,hD,hJ,hP,hY,d1,z];try exact lz)
 | (cases h;done))
  | cons s l=>simp only [Sm.aT]at h;omega
 | succ m ih=>
  intro l h hs hf nest n h0 Zr hn
  generalize hR:Sm.eC nest n l=R
  have hlen:=Sm.cP l
  unfold Sm.eC gate at hR
  have h:=hR
  refine aI.go mH rfl fun B Q hB hQ=> ?_
  have⟨hD,hJ,hP,hY⟩:=cf
  repeat' (first
 | simp only [go_sem,hD,hJ,hP,hY]
 | (with_reducible first | refine cD fun hc=> ?_ | refine cE fun hc=> ?_ | refine cG (fun hc=> ?_) fun hc=> ?_) <;> (try simp only [hc,bs, ↓reduceIte]at h) <;> try simp only [hc]
 | (with_reducible refine aJ hQ ?_;(try cases h);simp only [az,aB,dv,dw,go_sem,hD,hJ,hP,hY];repeat' (first | exact Ok.out | with_reducible refine aO ?_ ?_ | (simp;done)))
 | (cases h;done))
  all_goals
   have Qn:l≠ []→nest≤12:=by
    intro dQ
    have:l.length≠0:=by simpa using dQ
    simp_all <;> omega
   refine dF 1 0 (bp.ind (ι:=List Sm×Nat×Nat) (fun i=>l.drop i.2.1=i.1∧Sm.dm nest i.2.2 i.1=R∧i.2.2≤200) (fun i=>i.1.length)
    (fun i=> [(0, .ptr 0 0),(2, .int .i64 nest),(16, .slice .shared 13 (l.map bf)),(17, .int .i64 (l.length:Int)),(18, .int .i64 (i.2.1:Int))]) (fun i=>⟨[[.int .i64 (i.2.2:Int)]],[]⟩) ?_ (l,0,n) ⟨rfl,h,hn⟩)
   rintro⟨rest,k,j⟩ ⟨h1,h,hj⟩ IH
   dsimp only at h1 h hj
   cases rest with
   | nil=>
    have hD:=drop_nil h1
    simp only [Sm.dm]at h
    repeat' (first
 | simp only [go_sem,hD,hJ,hP,hY]
 | (with_reducible first | refine cD fun hc=> ?_ | refine cE fun hc=> ?_ | refine cG (fun hc=> ?_) fun hc=> ?_) <;> (try simp only [hc,bs, ↓reduceIte]at h) <;> try simp only [hc]
 | (with_reducible refine aJ hQ ?_;exact ju)
 | (cases h;done))
   | cons s rest=>
    obtain⟨hJ,g2,hD,g4⟩:=drop_cons h1
    have hP:k<4611686018427387904:=by omega
    have kj:=List.mem_of_getElem? hJ
    have dE:=Sm.b6 kj
    have aaQ:=Qn (by rintro rfl;simp at kj)
    obtain⟨vN,Zs,Zt⟩:=(vk s).1 (wq hf kj)
    have S3:Sm.aT s.aZ<s.size∧Sm.aT s.aQ<s.size:=by cases s;simp only [Sm.size];omega
    have w1:IntKind.wrap .i64 ((j:Int)+1)=((j+1:Nat):Int):=by rw [dt] <;> omega
    have w2:IntKind.wrap .i64 (nest+1)=nest+1:=dt (by omega) (by omega)
    have c1:=fun s=>rQ vN.SX vN.Zl s
    have c2:=fun s=>I5 vN s
    simp only [Sm.dm,xq]at h
    by_cases Gq:j+1≤200
    ·have r1:=xr (nest:=nest+1) (l:=s.aZ) Gq
     have c3:=fun s' ho=>(ih s.aZ (by omega) (by omega) Zs (nest+1) (j+1) (by omega) (by omega) Gq).HA (s:=s') (o:=0) (by simp [D.bI,D.ok,oT,Tag.ok]) rfl rfl rfl ho
     by_cases sw:(Sm.eC (nest+1) (j+1) s.aZ).1=true
     ·have c4:=fun s' ho=>(ih s.aQ (by omega) (by omega) Zt (nest+1) _ (by omega) (by omega) (r1.2 sw)).HA (s:=s') (o:=0) (by simp [D.bI,D.ok,oT,Tag.ok]) rfl rfl rfl ho
      have r2:=xr (nest:=nest+1) (l:=s.aQ) (r1.2 sw)
      simp only [sw]at c3
      simp only [sw,Bool.not_true,Bool.false_eq_true, ↓reduceIte]at h
      repeat' (first
 | simp only [go_sem,hD,hJ,hP,hY,w1,w2,sw]
 | (with_reducible refine CU (c1 _) ?_)
 | (with_reducible refine CU (c2 _) ?_)
 | (with_reducible refine CU (c3 _ rfl) ?_)
 | (with_reducible refine CU (c4 _ rfl) ?_)
 | (with_reducible first | refine cD fun hc=> ?_ | refine cE fun hc=> ?_ | refine cG (fun hc=> ?_) fun hc=> ?_) <;> (try simp only [hc,bs, ↓reduceIte]at h) <;> try simp only [hc]
 | (with_reducible refine aJ hQ ?_;(try cases h);simp only [az,aB,dv,dw,go_sem,hD,hJ,hP,hY,w1,w2,sw];try exact lz)
 | (cases h;done))
      refine dF 1 0 (IH (rest,k+1,(Sm.eC (nest+1) (Sm.eC (nest+1) (j+1) s.aZ).2 s.aQ).2) ⟨g2,h,r2.2 (by assumption)⟩ (Nat.lt_succ_self _))
     ·have sw:(Sm.eC (nest+1) (j+1) s.aZ).1=false:=by simpa using sw
      simp only [sw]at c3
      simp only [sw,Bool.not_false, ↓reduceIte]at h
      repeat' (first
 | simp only [go_sem,hD,hJ,hP,hY,w1,w2,sw]
 | (with_reducible refine CU (c1 _) ?_)
 | (with_reducible refine CU (c2 _) ?_)
 | (with_reducible refine CU (c3 _ rfl) ?_)
 | (with_reducible first | refine cD fun hc=> ?_ | refine cE fun hc=> ?_ | refine cG (fun hc=> ?_) fun hc=> ?_) <;> (try simp only [hc,bs, ↓reduceIte]at h) <;> try simp only [hc]
 | (with_reducible refine aJ hQ ?_;(try cases h);simp only [az,aB,dv,dw,go_sem,hD,hJ,hP,hY,w1,w2,sw];try exact lz)
 | (cases h;done))
    ·have d1:decide (((j+1:Nat):Int) > 200)=true:=by simp;omega
     simp only [d1,Bool.true_or,Bool.not_false, ↓reduceIte]at h
     repeat' (first
 | simp only [go_sem,hD,hJ,hP,hY,w1,w2,d1]
 | (with_reducible refine CU (c1 _) ?_)
 | (with_reducible refine CU (c2 _) ?_)
 | (with_reducible first | refine cD fun hc=> ?_ | refine cE fun hc=> ?_ | refine cG (fun hc=> ?_) fun hc=> ?_) <;> (try simp only [hc,bs, ↓reduceIte]at h) <;> try simp only [hc]
 | (with_reducible refine aJ hQ ?_;(try cases h);simp only [az,aB,dv,dw,go_sem,hD,hJ,hP,hY,w1,w2,d1];try exact lz)
 | (cases h;done))
end Go.Abs

/-! TMay4 -/

namespace Go.Abs
set_option maxRecDepth 8000
open Go.Proofs
def Pc.dm (n:Nat):List Pc→Bool
 | []=>true
 | f::l=>
  if decide ((f.params.length:Int) > 8) || decide ((f.vars.length:Int) > 16) || !(isName f.name) || !(df f.vars) || !(df f.fin)then false
  else if !(Pm.ef f.params)then false
  else if !(Sm.eC 1 n f.body).1 then false
  else Pc.dm (Sm.eC 1 n f.body).2 l
def Pg.xu (p:Pg):Bool:=
 if decide ((p.globals.length:Int) > 16) || decide ((p.procs.length:Int) > 16) || !(df p.globals)then false
 else Pc.dm 0 p.procs
structure Pg.zh (p:Pg):Prop where
 sz:p.size<4611686018427387000
 Ax : ∀ t∈p.globals,t.length<4611686018427387904
 lJ : ∀ f∈p.procs,f.name.length<4611686018427387904∧(∀ t∈f.vars,t.length<4611686018427387904)∧(∀ t∈f.fin,t.length<4611686018427387904)∧∀ a∈f.params,a.name.length<4611686018427387904
 body : ∀ f∈p.procs,Sm.gx f.body
theorem N4 {p:Pg} (hf:p.zh) (s:St):aI Try.prog rJ [.agg (bS p)] s (.bool p.xu) s:=by
 refine aI.pure ?_ (by simp only [D.bI,D.ok,km];rfl) rfl s
 obtain⟨dE,uL,N5,CJ⟩:=hf
 have qf:Pc.aT p.procs<4611686018427387000:=by simp only [Pg.size]at dE;omega
 have Qo:p.globals.length<4611686018427387904:=by simp only [Pg.size]at dE;omega
 have aax:p.procs.length<4611686018427387904:=by have:=Pc.cP p.procs;omega
 have hg:=fun s=>rQ Qo uL s
 unfold S0
 generalize h:p.xu=R
 unfold Pg.xu at h
 refine aI.go Ao rfl fun B Q hB hQ=> ?_
 have⟨hD,hJ,hP,hY⟩:=cf
 repeat' (first
 | simp only [go_sem,hD,hJ,hP,hY]
 | (with_reducible refine CU (hg _) ?_)
 | (with_reducible first | refine cD fun hc=> ?_ | refine cE fun hc=> ?_ | refine cG (fun hc=> ?_) fun hc=> ?_) <;> (try simp only [hc,bs, ↓reduceIte]at h) <;> try simp only [hc]
 | (with_reducible refine aJ hQ ?_;exact ju)
 | (cases h;done))
 refine dF 2 0 (bp.ind (ι:=List Pc×Nat×Nat) (fun i=>p.procs.drop i.2.1=i.1∧Pc.dm i.2.2 i.1=R∧i.2.2≤200) (fun i=>i.1.length)
  (fun i=> [(1, .ptr 0 0),(3, .ptr 1 0),(27, .slice .shared 5 (p.procs.map bL)),(28, .int .i64 (p.procs.length:Int)),(29, .int .i64 (i.2.1:Int))]) (fun i=>⟨[bS p,[.int .i64 (i.2.2:Int)]],[]⟩) ?_ (p.procs,0,0) ⟨rfl,h,Nat.zero_le _⟩)
 rintro⟨rest,k,n⟩ ⟨h1,h,hn⟩ IH
 dsimp only at h1 h hn
 cases rest with
 | nil=>
  have hD:=drop_nil h1
  simp only [Pc.dm]at h
  repeat' (first
 | simp only [go_sem,hD,hJ,hP,hY]
 | (with_reducible first | refine cD fun hc=> ?_ | refine cE fun hc=> ?_ | refine cG (fun hc=> ?_) fun hc=> ?_) <;> (try simp only [hc,bs, ↓reduceIte]at h) <;> try simp only [hc]
 | (with_reducible refine aJ hQ ?_;exact ju)
 | (cases h;done))
 | cons f rest=>
  obtain⟨hJ,g2,hD,g4⟩:=drop_cons h1
  have bB:k<4611686018427387904:=by omega
  have kj:=List.mem_of_getElem? hJ
  have Ky:=Pc.b6 kj
  simp only [Pc.size]at Ky
  obtain⟨sx,Zu,Zv,Zw⟩:=N5 f kj
  have N6:=tB f.name sx
  have hv:=fun s=>rQ (by omega) Zu s
  have he:=fun s=>rQ (by omega) Zv s
  have hb:=fun s' o ho=>(LM _ f.body (Nat.le_refl _) (by omega) (CJ f kj) 1 n (by omega) (by omega) hn).HA (s:=s') (o:=o) (by simp [D.bI,D.ok,oT,Tag.ok]) rfl rfl rfl ho
  have hle:=xr (nest:=1) (l:=f.body) hn
  simp only [Pc.dm]at h
  repeat' (first
 | simp only [go_sem,hD,hJ,hP,hY]
 | (with_reducible refine CU (N6 _) ?_)
 | (with_reducible refine CU (hv _) ?_)
 | (with_reducible refine CU (he _) ?_)
 | (with_reducible first | refine cD fun hc=> ?_ | refine cE fun hc=> ?_ | refine cG (fun hc=> ?_) fun hc=> ?_) <;> (try simp only [hc,bs, ↓reduceIte]at h) <;> try simp only [hc]
 | (with_reducible refine aJ hQ ?_;exact ju)
 | (cases h;done))
  refine dF 3 0 (bp.ind (ι:=List Pm×Nat) (fun i=>f.params.drop i.2=i.1∧(if !(Pm.ef i.1)then false else if !(Sm.eC 1 n f.body).1 then false else Pc.dm (Sm.eC 1 n f.body).2 rest)=R) (fun i=>i.1.length)
   (fun i=> [(1, .ptr 0 0),(3, .ptr 1 0),(5, .ptr 2 0),(27, .slice .shared 5 (p.procs.map bL)),(28, .int .i64 (p.procs.length:Int)),(29, .int .i64 (k:Int)),(62, .slice .shared 2 (f.params.map fm)),(63, .int .i64 (f.params.length:Int)),(64, .int .i64 (i.2:Int))]) (fun i=>⟨[bS p,[.int .i64 (n:Int)],bL f],[]⟩) ?_ (f.params,0) ⟨rfl,h⟩)
  rintro⟨Ep,j⟩ ⟨j1,h⟩ wu
  dsimp only at j1 h
  cases Ep with
  | nil=>
   have hD:=drop_nil j1
   simp only [Pm.ef,Bool.not_true,Bool.false_eq_true, ↓reduceIte]at h
   repeat' (first
 | simp only [go_sem,hD,hJ,hP,hY]
 | (with_reducible refine CU (hb _ _ rfl) ?_)
 | (with_reducible first | refine cD fun hc=> ?_ | refine cE fun hc=> ?_ | refine cG (fun hc=> ?_) fun hc=> ?_) <;> (try simp only [hc,bs, ↓reduceIte]at h) <;> try simp only [hc]
 | (with_reducible refine aJ hQ ?_;exact ju)
 | (cases h;done))
   refine dA 2 0 ?_ ?_ (IH (rest,k+1,(Sm.eC 1 n f.body).2) ⟨g2,h,hle.2 (by assumption)⟩ (Nat.lt_succ_self _))
   ·(simp only [go_sem,hD,hJ,hP,hY,aH bB];try exact bw)
   ·(simp only [go_sem,hD,hJ,hP,hY,aH bB];try exact bw)
  | cons a Ep=>
   obtain⟨hJ,b2,hD,b4⟩:=drop_cons j1
   have Gq:j<4611686018427387904:=by omega
   have ha:=tB a.name (Zw a (List.mem_of_getElem? hJ))
   simp only [Pm.ef]at h
   repeat' (first
 | simp only [go_sem,hD,hJ,hP,hY]
 | (with_reducible refine CU (ha _) ?_)
 | (with_reducible first | refine cD fun hc=> ?_ | refine cE fun hc=> ?_ | refine cG (fun hc=> ?_) fun hc=> ?_) <;> (try simp only [hc,bs, ↓reduceIte]at h) <;> try simp only [hc]
 | (with_reducible refine aJ hQ ?_;exact ju)
 | (cases h;done))
   refine dA 3 0 ?_ ?_ (wu (Ep,j+1) ⟨b2,h⟩ (Nat.lt_succ_self _))
   ·(simp only [go_sem,hD,hJ,hP,hY,aH Gq];try exact bw)
   ·(simp only [go_sem,hD,hJ,hP,hY,aH Gq];try exact bw)
end Go.Abs

/-! MayFine -/

namespace Go.Abs
theorem rR {s:aD} (h:isName s=true):s.length≤8:=by
 cases s with
 | nil=>simp
 | cons c r=>
  simp only [isName]at h
  split at h
  ·cases h
  ·rename_i hc
   simp only [Bool.or_eq_true,decide_eq_true_eq,not_or]at hc
   simp only [List.length_cons];omega
theorem kX {t:aD} : ∀ {l:List aD},df l=true→t∈l→isName t=true
 | s::l,h,m=>by
  simp only [df]at h
  cases hs:isName s
  ·simp [hs]at h
  ·simp [hs]at h
   rcases List.mem_cons.1 m with rfl | m
   ·exact hs
   ·exact kX h m
theorem Ay {a:Ar} : ∀ {l:List Ar},Ar.ef l=true→a∈l→a.may=true
 | s::l,h,m=>by
  simp only [Ar.ef]at h
  cases hs:s.may
  ·simp [hs]at h
  ·simp [hs]at h
   rcases List.mem_cons.1 m with rfl | m
   ·exact hs
   ·exact Ay h m
theorem x4 {a:Pm} : ∀ {l:List Pm},Pm.ef l=true→a∈l→isName a.name=true
 | s::l,h,m=>by
  simp only [Pm.ef]at h
  cases hs:isName s.name
  ·simp [hs]at h
  ·simp [hs]at h
   rcases List.mem_cons.1 m with rfl | m
   ·exact hs
   ·exact x4 h m
mutual
theorem wv : ∀ x:Ex,x.form=true→x.texts
 | ⟨op,n,name,kids⟩,h=>by
  simp only [Ex.form]at h
  split at h
  ·cases h
  ·rename_i hc
   refine⟨?_,uM kids h⟩
   simp only [Bool.or_eq_true,Bool.and_eq_true,Bool.not_eq_true',not_or,not_and,Bool.not_eq_false]at hc
   cases hn:(name == [])
   ·have:=rR (hc.2 hn);omega
   ·simp at hn;subst hn;simp
theorem uM : ∀ l:List Ex,Ex.nI l=true→Ex.pz l
 | [],_=>trivial
 | x::l,h=>by
  simp only [Ex.nI]at h
  cases hx:x.form
  ·simp [hx]at h
  ·simp [hx]at h
   exact⟨wv x hx,uM l h⟩
end
theorem x5 {x:Ex} (h:x.may=true):x.texts:=by
 unfold Ex.may at h
 simp only [Bool.and_eq_true]at h
 exact wv x h.2
theorem wx {x:Ex} (h:x.none=true):x.texts:=by
 obtain⟨op,n,name,kids⟩:=x
 simp [Ex.none]at h
 obtain⟨⟨_,h1⟩,h2⟩:=h
 subst h1 h2
 exact⟨by simp,trivial⟩
mutual
theorem Gr {deep bC:Int} {aQ:Bool} {out:List It} {i:It} : ∀ s:Sm,i∈fz deep bC aQ out s→i∈out∨i.s.size≤s.size
 | ⟨id,kind,labels,name,proc,x,has,args,aZ,e⟩,h=>by
  simp only [fz]at h
  have key:i∈out++ [(⟨⟨id,kind,labels,name,proc,x,has,args,aZ,e⟩,deep,bC,aQ⟩:It)]→i∈out∨i.s.size≤(⟨id,kind,labels,name,proc,x,has,args,aZ,e⟩:Sm).size:=by
   intro h
   rcases List.mem_append.1 h with h | h
   ·exact .inl h
   ·simp at h;subst h;exact .inr (Nat.le_refl _)
  split at h
  ·rcases qg e h with h | h
   ·rcases qg aZ h with h | h
    ·exact key h
    ·right;simp only [Sm.size];omega
   ·right;simp only [Sm.size];omega
  ·exact key h
theorem qg {deep bC:Int} {aQ:Bool} {out:List It} {i:It} : ∀ l:List Sm,i∈cq deep bC aQ out l→i∈out∨i.s.size<Sm.aT l
 | [],h=>by simp only [cq]at h;exact .inl h
 | s::l,h=>by
  simp only [cq]at h
  split at h
  ·rcases qg l h with h | h
   ·rcases Gr s h with h | h
    ·exact .inl h
    ·right;simp only [Sm.aT];omega
   ·right;simp only [Sm.aT];omega
  ·exact .inl h
end
theorem Az {i:It} : ∀ (l:List Pc) (out:List It),i∈allM out l→i∈out∨i.s.size<Pc.aT l
 | [],out,h=>by simp only [allM]at h;exact .inl h
 | f::l,out,h=>by
  have key:i∈out++f.flat→i∈out∨i.s.size<Pc.aT (f::l):=by
   intro h
   rcases List.mem_append.1 h with h | h
   ·exact .inl h
   ·rcases qg _ h with h | h
    ·simp at h
    ·right;simp only [Pc.aT,Pc.size];omega
  simp only [allM]at h
  split at h
  ·exact key h
  ·rcases Az l _ h with h | h
   ·exact key h
   ·right;simp only [Pc.aT];omega
theorem wy {i:It} : ∀ (l:List It) (n:Nat),It.ef n l=true→i∈l→i.s.one=true
 | s::l,n,h,m=>by
  simp only [It.ef]at h
  split at h
  ·cases h
  ·rename_i hc
   simp only [Bool.or_eq_true,Bool.not_eq_true',not_or,Bool.not_eq_false]at hc
   rcases List.mem_cons.1 m with rfl | m
   ·exact hc.2
   ·exact wy l (n+1) h m
theorem AA {s:Sm} (h:s.one=true) (hs:s.size<4611686018427387000):s.oD:=by
 unfold Sm.one at h
 split at h
 ·cases h
 split at h
 ·cases h
 split at h
 ·cases h
 split at h
 ·cases h
 rename_i c1 c2 c3 c4
 simp only [Bool.or_eq_true,Bool.and_eq_true,Bool.not_eq_true',not_or,not_and,Bool.not_eq_false,decide_eq_true_eq]at c1 c2 c3 c4
 obtain⟨⟨⟨⟨⟨_,_⟩,S4⟩,cx⟩,cn⟩,_⟩:=c1
 obtain⟨Zx,Zy⟩:=c2
 obtain⟨⟨Rn,Zz⟩,c33⟩:=c3
 have nm : ∀ {t:aD},isName t=true→t.length<4611686018427387904:=fun h=>by have:=rR h;omega
 have dE:1+s.labels.length+s.x.size+Ar.aT s.args≤s.size:=by cases s;simp only [Sm.size];omega
 have tg:=Ar.cP s.args
 refine⟨fun t ht=>nm (kX S4 ht),by omega, ?_, ?_,by omega, ?_,by omega,fun a ha=> ?_⟩
 ·cases hn:s.hasName
  ·cases he:(s.name == [])
   ·exact nm (Zy ⟨hn,he⟩).2
   ·simp at he;rw [he];simp
  ·exact nm (Zx hn)
 ·cases zG:s.rb
  ·rw [zG]at Rn
   have:s.proc = []:=by simpa using Rn
   rw [this];simp
  ·exact nm (Zz zG)
 ·cases hx:s.El
  ·exact wx (cn hx)
  ·exact x5 (cx hx)
 ·have hm:=Ay c4 ha
  have Kz:=Ar.b6 ha
  unfold Ar.may at hm
  split at hm
  ·simp only [Bool.and_eq_true]at hm
   exact⟨by omega,wx hm.2,nm hm.1⟩
  ·simp only [Bool.and_eq_true,beq_iff_eq]at hm
   exact⟨by omega,x5 hm.2,by rw [hm.1];simp⟩
theorem x6 {f:Pc} : ∀ {l:List Pc},Pc.lJ l=true→f∈l→isName f.name=true∧df f.vars=true∧df f.fin=true∧Pm.ef f.params=true
 | s::l,h,m=>by
  simp only [Pc.lJ]at h
  split at h
  ·cases h
  split at h
  ·cases h
  rename_i c1 c2
  simp only [Bool.or_eq_true,Bool.not_eq_true',not_or,Bool.not_eq_false]at c1 c2
  rcases List.mem_cons.1 m with rfl | m
  ·exact⟨c1.1.1.1.1,c1.1.2,c1.2,c2⟩
  ·exact x6 h m
theorem Je {p:Pg} (h:p.may=true) (hs:p.size<4611686018427387000):p.oD:=by
 unfold Pg.may at h
 split at h
 ·cases h
 split at h
 ·cases h
 split at h
 ·cases h
 rename_i c1 c2 c3
 simp only [Bool.or_eq_true,Bool.not_eq_true',not_or,Bool.not_eq_false]at c1 c2
 have nm : ∀ {t:aD},isName t=true→t.length<4611686018427387904:=fun h=>by have:=rR h;omega
 refine⟨hs,fun t ht=>nm (kX c1.2 ht),fun f hf=> ?_,fun i hi=> ?_⟩
 ·obtain⟨a,b,c,d⟩:=x6 c2 hf
  exact⟨nm a,fun t ht=>nm (kX b ht),fun t ht=>nm (kX c ht),fun t ht=>nm (x4 d ht)⟩
 ·refine AA (wy _ _ h hi) ?_
  rcases Az _ _ hi with h1 | h1
  ·simp at h1
  ·simp only [Pg.size]at hs;omega
end Go.Abs

/-! MayEq -/

namespace Go.Abs
theorem Gs {t:aD} (h:isName t=true):t≠ []:=by rintro rfl;cases h
theorem Jf (op n:Int) (name:aD) (kids:List Ex):Ex.form ⟨op,n,name,kids⟩=true↔
 lD op=(kids.length:Int)∧(op=1∨n=0)∧0≤n∧(op=2↔name≠ [])∧(name = []∨isName name=true)∧Ex.nI kids=true:=by
 simp only [Ex.form]
 split
 ·rename_i h
  simp only [Bool.or_eq_true,Bool.and_eq_true,bne_iff_ne,ne_eq,decide_eq_true_eq,Bool.not_eq_true']at h
  refine⟨fun h=>(Bool.false_ne_true h).elim,fun⟨h1,h2,h3,h4,h5,_⟩=> ?_⟩
  exfalso
  rcases h with (((h | h) | h) | h) | h
  ·exact h h1
  ·rcases h2 with h2 | h2
   ·exact h.1 h2
   ·exact h.2 h2
  ·omega
  ·by_cases h2:op=2 <;> cases name <;> simp_all
  ·rcases h5 with h5 | h5
   ·subst h5;simp at h
   ·rw [h5]at h;simp at h
 ·rename_i h
  simp only [Bool.or_eq_true,Bool.and_eq_true,bne_iff_ne,ne_eq,decide_eq_true_eq,Bool.not_eq_true',not_or,not_and,Decidable.not_not,Bool.not_eq_false]at h
  obtain⟨⟨⟨⟨h1,h2⟩,h3⟩,h4⟩,h5⟩:=h
  refine⟨fun h=>⟨h1, ?_,by omega, ?_, ?_,h⟩,fun h=>h.2.2.2.2.2⟩
  ·by_cases h:op=1
   ·exact .inl h
   ·exact .inr (h2 h)
  ·by_cases h2:op=2 <;> cases name <;> simp_all
  ·cases name with
   | nil=>exact .inl rfl
   | cons c r=>exact .inr (h5 rfl)
theorem N7 (op n:Int) (name:aD) (kids:List Ex) (k:Int):Ex.dp k ⟨op,n,name,kids⟩=true↔
 1≤k∧(kids.length:Int)=lD op∧(if op=1 then 0≤n∧name = []else if op=2 then n=0∧isName name=true else n=0∧name = []∧Ex.wk (k - 1) kids=true):=by
 simp only [Ex.dp]
 split
 ·rename_i h
  simp only [Bool.or_eq_true,decide_eq_true_eq,bne_iff_ne,ne_eq]at h
  refine⟨fun h=>(Bool.false_ne_true h).elim,fun⟨h1,h2,_⟩=> ?_⟩
  rcases h with h | h
  ·omega
  ·exact(h h2).elim
 rename_i h
 simp only [Bool.or_eq_true,decide_eq_true_eq,bne_iff_ne,ne_eq,not_or,Decidable.not_not]at h
 have h1:1≤k:=by omega
 simp only [h1,h.2,true_and]
 by_cases o1:op=1
 ·subst o1
  cases name <;> simp
 ·have ZA : ¬ (op==1)=true:=by simpa using o1
  rw [if_neg ZA,if_neg o1]
  by_cases o2:op=2
  ·subst o2;simp
  ·have ZB : ¬ (op==2)=true:=by simpa using o2
   rw [if_neg ZB,if_neg o2]
   by_cases hn:n=0
   ·subst hn
    cases name <;> simp
   ·simp [hn]
mutual
theorem KA : ∀ (x:Ex) (k:Int),0≤k→(x.dp k=true↔(x.depth:Int)≤k∧x.form=true)
 | ⟨op,n,name,kids⟩,k,hk=>by
  rw [N7,Jf]
  have hd:Ex.depth ⟨op,n,name,kids⟩=Ex.lB kids+1:=by simp only [Ex.depth]
  rw [hd]
  by_cases h1:1≤k
  ·have ih:=Gt kids (k - 1) (by omega)
   by_cases o1:op=1
   ·subst o1
    have ha:lD 1=0:=rfl
    rw [ha,if_pos rfl]
    constructor
    ·rintro⟨_,h2,h3,h4⟩
     have:kids = []:=List.eq_nil_of_length_eq_zero (by omega)
     subst this;subst h4
     simp [Ex.lB,Ex.nI,h3];omega
    ·rintro⟨h2,h3,_,h4,h5,_⟩
     refine⟨h1,h3.symm,h4, ?_⟩
     cases name
     ·rfl
     ·simp at h5
   ·rw [if_neg o1]
    by_cases o2:op=2
    ·subst o2
     have ha:lD 2=0:=rfl
     rw [ha,if_pos rfl]
     constructor
     ·rintro⟨_,h2,h3,h4⟩
      have:kids = []:=List.eq_nil_of_length_eq_zero (by omega)
      subst this;subst h3
      have:=Gs h4
      simp [Ex.lB,Ex.nI,h4,this];omega
     ·rintro⟨h2,h3,h4,_,h5,h6,_⟩
      refine⟨h1,h3.symm,h4.resolve_left o1, ?_⟩
      exact h6.resolve_left (h5.1 rfl)
    ·rw [if_neg o2,ih]
     constructor
     ·rintro⟨_,h2,h3,h4,h5,h6⟩
      subst h3;subst h4
      exact⟨by omega,h2.symm, .inr rfl,Int.le_refl _,by simp [o2], .inl rfl,h6⟩
     ·rintro⟨h2,h3,h4,_,h5,h6,h7⟩
      refine⟨h1,h3.symm,h4.resolve_left o1, ?_,by omega,h7⟩
      exact Decidable.byContradiction fun h=>o2 (h5.2 h)
  ·constructor
   ·rintro⟨h,_⟩;exact(h1 h).elim
   ·rintro⟨h,_⟩;omega
theorem Gt : ∀ (l:List Ex) (k:Int),0≤k→(Ex.wk k l=true↔(Ex.lB l:Int)≤k∧Ex.nI l=true)
 | [],k,hk=>by simp [Ex.wk,Ex.lB,Ex.nI,hk]
 | x::l,k,hk=>by
  have h1:=KA x k hk
  have h2:=Gt l k hk
  have hd:Ex.lB (x::l)=max x.depth (Ex.lB l):=by simp only [Ex.lB]
  rw [hd]
  simp only [Ex.wk,Ex.nI]
  cases hx:Ex.dp k x
  ·simp only [Bool.not_false, ↓reduceIte,Bool.false_eq_true,false_iff,not_and]
   intro h3
   have : ¬ ((x.depth:Int)≤k∧x.form=true):=by rw [← h1,hx];simp
   have hf:x.form=false:=by
    cases hf:x.form
    ·rfl
    ·exact(this ⟨by omega,hf⟩).elim
   simp [hf]
  ·have:=h1.1 hx
   simp only [Bool.not_true,Bool.false_eq_true, ↓reduceIte,this.2,h2]
   have h3:=this.1
   refine and_congr_left fun _=> ?_
   omega
end
theorem Gu (x:Ex):x.dp 20=x.may:=by
 rw [Bool.eq_iff_iff,KA x 20 (by omega)]
 unfold Ex.may
 simp only [Bool.and_eq_true,decide_eq_true_eq]
 refine and_congr_left fun _=> ?_
 omega
theorem x7 (x:Ex) (b:Bool):pC x b=if b then x.may else x.none:=by
 unfold pC
 rw [Gu]
 cases b <;> simp
theorem x8 (t:aD) (b:Bool):n3 t b=if b then isName t else t == []:=by
 unfold n3
 cases b <;> simp
theorem uN : ∀ l:List Ar,la l=Ar.ef l
 | []=>rfl
 | a::l=>by
  simp only [la,Ar.ef,Ar.may,x7,x8,uN l]
  grind
theorem S5 {α:Type} (l:List α):((l.length:Int)==0) = !(decide ((l.length:Int) > 0)):=by
 cases l with
 | nil=>rfl
 | cons a l=>
  have h1:(((a::l).length:Int)==0)=false:=by simp only [List.length_cons,beq_eq_false_iff_ne];omega
  have h2:decide (((a::l).length:Int) > 0)=true:=by simp only [List.length_cons,decide_eq_true_eq];omega
  rw [h1,h2];rfl
theorem wz (s:Sm):s.one=(df s.labels && s.fields):=by
 have hk:s.kind=1∨s.kind=2∨s.kind=3∨s.kind=4∨s.kind=5∨s.kind=6∨s.kind=7∨s.kind=8∨s.kind=9∨s.kind=10∨s.kind<1∨s.kind > 10:=by omega
 unfold Sm.one Sm.fields Sm.flags Sm.El Sm.hasName Sm.rb
 have p1:isName [] = false:=rfl
 rcases hk with h | h | h | h | h | h | h | h | h | h | h | h
 all_goals
  simp only [h,S5,uN,x7,x8,Sm.zg,Sm.zf]
  grind
end Go.Abs

/-! Nm1 -/

namespace Go.Abs
set_option maxRecDepth 8000
open Go.Proofs
mutual
def Ex.jR (out:List aD):Ex→List aD
 | ⟨op,_,name,kids⟩=>Ex.iy (if op==2 && !(eg out name)then out++ [name]else out) kids
def Ex.iy (out:List aD):List Ex→List aD
 | []=>out
 | x::l=>Ex.iy (Ex.jR out x) l
end
def Ex.names (x:Ex):List aD:=if x.may then x.jR []else []
mutual
theorem nr (out:List aD) : ∀ x:Ex,(Ex.jR out x).length≤out.length+x.size
 | ⟨op,n,name,kids⟩=>by
  simp only [Ex.jR,Ex.size]
  have h:=x9 (if op==2 && !(eg out name)then out++ [name]else out) kids
  refine Nat.le_trans h ?_
  split <;> simp <;> omega
theorem x9 (out:List aD) : ∀ l:List Ex,(Ex.iy out l).length≤out.length+Ex.aT l
 | []=>by simp [Ex.iy,Ex.aT]
 | x::l=>by
  simp only [Ex.iy,Ex.aT]
  have h1:=nr out x
  have h2:=x9 (Ex.jR out x) l
  omega
end
def ug (out:List aD) (x:aD):List aD:=if eg out x then out else out++ [x]
def Qp (x:aD):List aD→Bool
 | []=>false
 | s::l=>if s==x then true else Qp x l
abbrev Gv (N:Nat):Prop:=∀ (x:Ex),x.size≤N→∀ out:List aD,out.length+x.size≤1000000000→∀ {s:St} {t:Nat},s.av[t]? = some (some out.length)→
 aI Try.prog fy [.agg (bA x), .slice (.tok t) 1 (out.map encStr)] s (.slice (.tok t) 1 ((x.jR out).map encStr)) ⟨s.au,s.av.set t (some (x.jR out).length)⟩
theorem N8 {N:Nat} (ih:Gv N) {op m:Int} {name:aD} {kids:List Ex} (h:Ex.size ⟨op,m,name,kids⟩≤N+1) {out:List aD} (ho:out.length+Ex.size ⟨op,m,name,kids⟩≤1000000000) :
 aI Try.prog fy [.agg (bA ⟨op,m,name,kids⟩), .slice (.tok 0) 1 (out.map encStr)] ⟨[],[some out.length]⟩ (.slice (.tok 0) 1 ((Ex.jR out ⟨op,m,name,kids⟩).map encStr)) ⟨[],[some (Ex.jR out ⟨op,m,name,kids⟩).length]⟩:=by
 obtain⟨R,hG⟩ : ∃ R,Ex.jR out ⟨op,m,name,kids⟩=R:=⟨_,rfl⟩
 rw [hG]
 simp only [Ex.jR]at hG
 simp only [Ex.size]at h ho
 have hlen:kids.length<1000000000:=by have:=Ex.cP kids;omega
 have hk : ∀ y∈kids,∀ out:List aD,out.length+y.size≤1000000000→∀ {s:St} {t:Nat},s.av[t]? = some (some out.length)→
  aI Try.prog fy [.agg (bA y), .slice (.tok t) 1 (out.map encStr)] s (.slice (.tok t) 1 ((y.jR out).map encStr)) ⟨s.au,s.av.set t (some (y.jR out).length)⟩:=fun y hy out ho=>
  ih y (by have:=Ex.b6 hy;omega) out ho
 refine aI.go mI rfl fun B Q hB hQ=> ?_
 have⟨hD,hJ,hP,hY⟩:=cf
 have hP:(out.length+1)*17≤bH:=by unfold bH;omega
 rcases Bool.eq_false_or_eq_true (op==2)with b1 | b1
 ·rcases Bool.eq_false_or_eq_true (eg out name)with b2 | b2
  ·simp only [b1,b2,Bool.not_true,Bool.and_false,Bool.false_eq_true,if_false]at hG
   repeat' (first
 | simp only [go_sem,hD,hJ,hP,hY,b1,b2]
 | (with_reducible refine CU (gm (l:=out) (by omega) name _ _) ?_)
 | (with_reducible refine aJ hQ ?_;simp only [az,aB,Option.some.injEq,exists_eq_left',go_sem,hD,hJ,hP,hY];repeat' (first | exact Ok.out | with_reducible refine aO ?_ ?_ | (simp;done))))
   refine dF 1 1 (bp.ind (ι:=List Ex×Nat×List aD×Nat) (fun i=>kids.drop i.2.1=i.1∧Ex.iy i.2.2.1 i.1=R∧i.2.2.1.length+Ex.aT i.1≤1000000000∧i.2.2.2=i.2.2.1.length) (fun i=>i.1.length)
    (fun i=> [(1, .slice (.tok 0) 1 (i.2.2.1.map encStr)),(2, .ptr 0 0),(23, .slice .shared 4 (kids.map bA)),(24, .int .i64 (kids.length:Int)),(25, .int .i64 (i.2.1:Int))]) (fun i=>⟨[bA ⟨op,m,name,kids⟩],[some i.2.2.2]⟩) ?_ (kids,0,out,out.length) ⟨rfl,hG,by simp;omega,by simp⟩)
   rintro⟨rest,k,br,n'⟩ ⟨h1,h2,h3,h4⟩ IH
   dsimp only at h1 h2 h3 h4
   subst h4
   cases rest with
   | nil=>
    have hD:=drop_nil h1
    simp only [Ex.iy]at h2
    subst h2
    repeat' (first
 | simp only [go_sem,hD,hJ,hP,hY]
 | (with_reducible refine aJ hQ ?_;simp only [az,aB,Option.some.injEq,exists_eq_left',go_sem,hD,hJ,hP,hY];repeat' (first | exact Ok.out | with_reducible refine aO ?_ ?_ | (simp;done))))
   | cons y rest=>
    obtain⟨hJ,g2,hD,g4⟩:=drop_cons h1
    have bB:k<4611686018427387904:=by omega
    simp only [Ex.iy]at h2
    simp only [Ex.aT]at h3
    have hy:=fun {s:St} {t:Nat} (ht:s.av[t]? = some (some br.length))=>hk y (List.mem_of_getElem? hJ) br (by omega) ht
    have hl:=nr br y
    repeat' (first
 | simp only [go_sem,hD,hJ,hP,hY]
 | (with_reducible refine CU (hy (by with_unfolding_all rfl)) ?_)
 | (with_reducible refine aJ hQ ?_;simp only [az,aB,Option.some.injEq,exists_eq_left',go_sem,hD,hJ,hP,hY];repeat' (first | exact Ok.out | with_reducible refine aO ?_ ?_ | (simp;done))))
    refine dA 1 1 ?_ ?_ (IH (rest,k+1,_,_) ⟨g2,h2,by dsimp only;omega,rfl⟩ (Nat.lt_succ_self _))
    ·(simp only [go_sem,hD,hJ,hP,hY,aH bB];try exact bw)
    ·(simp only [go_sem,hD,hJ,hP,hY,aH bB];try exact bw)
  ·simp only [b1,b2,Bool.not_false,Bool.and_true,if_true]at hG
   repeat' (first
 | simp only [go_sem,hD,hJ,hP,hY,b1,b2]
 | (with_reducible refine CU (gm (l:=out) (by omega) name _ _) ?_)
 | (with_reducible refine aJ hQ ?_;simp only [az,aB,Option.some.injEq,exists_eq_left',go_sem,hD,hJ,hP,hY];repeat' (first | exact Ok.out | with_reducible refine aO ?_ ?_ | (simp;done))))
   refine dA 1 1 ?_ ?_ (bp.ind (ι:=List Ex×Nat×List aD×Nat) (fun i=>kids.drop i.2.1=i.1∧Ex.iy i.2.2.1 i.1=R∧i.2.2.1.length+Ex.aT i.1≤1000000000∧i.2.2.2=i.2.2.1.length) (fun i=>i.1.length)
    (fun i=> [(1, .slice (.tok 0) 1 (i.2.2.1.map encStr)),(2, .ptr 0 0),(23, .slice .shared 4 (kids.map bA)),(24, .int .i64 (kids.length:Int)),(25, .int .i64 (i.2.1:Int))]) (fun i=>⟨[bA ⟨op,m,name,kids⟩],[some i.2.2.2]⟩) ?_ (kids,0,(out++ [name]),(out.length+1)) ⟨rfl,hG,by simp;omega,by simp⟩)
   ·(simp only [go_sem,hD,hJ,hP,hY,List.map_append,List.map_cons,List.map_nil,List.length_append,List.length_cons,List.length_nil,encStr];try exact bw)
   ·(simp only [go_sem,hD,hJ,hP,hY,List.map_append,List.map_cons,List.map_nil,List.length_append,List.length_cons,List.length_nil,encStr];try exact bw)
   rintro⟨rest,k,br,n'⟩ ⟨h1,h2,h3,h4⟩ IH
   dsimp only at h1 h2 h3 h4
   subst h4
   cases rest with
   | nil=>
    have hD:=drop_nil h1
    simp only [Ex.iy]at h2
    subst h2
    repeat' (first
 | simp only [go_sem,hD,hJ,hP,hY]
 | (with_reducible refine aJ hQ ?_;simp only [az,aB,Option.some.injEq,exists_eq_left',go_sem,hD,hJ,hP,hY];repeat' (first | exact Ok.out | with_reducible refine aO ?_ ?_ | (simp;done))))
   | cons y rest=>
    obtain⟨hJ,g2,hD,g4⟩:=drop_cons h1
    have bB:k<4611686018427387904:=by omega
    simp only [Ex.iy]at h2
    simp only [Ex.aT]at h3
    have hy:=fun {s:St} {t:Nat} (ht:s.av[t]? = some (some br.length))=>hk y (List.mem_of_getElem? hJ) br (by omega) ht
    have hl:=nr br y
    repeat' (first
 | simp only [go_sem,hD,hJ,hP,hY]
 | (with_reducible refine CU (hy (by with_unfolding_all rfl)) ?_)
 | (with_reducible refine aJ hQ ?_;simp only [az,aB,Option.some.injEq,exists_eq_left',go_sem,hD,hJ,hP,hY];repeat' (first | exact Ok.out | with_reducible refine aO ?_ ?_ | (simp;done))))
    refine dA 1 1 ?_ ?_ (IH (rest,k+1,_,_) ⟨g2,h2,by dsimp only;omega,rfl⟩ (Nat.lt_succ_self _))
    ·(simp only [go_sem,hD,hJ,hP,hY,aH bB];try exact bw)
    ·(simp only [go_sem,hD,hJ,hP,hY,aH bB];try exact bw)
 ·simp only [b1,Bool.false_and,Bool.false_eq_true,if_false]at hG
  repeat' (first
 | simp only [go_sem,hD,hJ,hP,hY,b1]
 | (with_reducible refine aJ hQ ?_;simp only [az,aB,Option.some.injEq,exists_eq_left',go_sem,hD,hJ,hP,hY];repeat' (first | exact Ok.out | with_reducible refine aO ?_ ?_ | (simp;done))))
  refine dF 1 1 (bp.ind (ι:=List Ex×Nat×List aD×Nat) (fun i=>kids.drop i.2.1=i.1∧Ex.iy i.2.2.1 i.1=R∧i.2.2.1.length+Ex.aT i.1≤1000000000∧i.2.2.2=i.2.2.1.length) (fun i=>i.1.length)
   (fun i=> [(1, .slice (.tok 0) 1 (i.2.2.1.map encStr)),(2, .ptr 0 0),(23, .slice .shared 4 (kids.map bA)),(24, .int .i64 (kids.length:Int)),(25, .int .i64 (i.2.1:Int))]) (fun i=>⟨[bA ⟨op,m,name,kids⟩],[some i.2.2.2]⟩) ?_ (kids,0,out,out.length) ⟨rfl,hG,by simp;omega,by simp⟩)
  rintro⟨rest,k,br,n'⟩ ⟨h1,h2,h3,h4⟩ IH
  dsimp only at h1 h2 h3 h4
  subst h4
  cases rest with
  | nil=>
   have hD:=drop_nil h1
   simp only [Ex.iy]at h2
   subst h2
   repeat' (first
 | simp only [go_sem,hD,hJ,hP,hY]
 | (with_reducible refine aJ hQ ?_;simp only [az,aB,Option.some.injEq,exists_eq_left',go_sem,hD,hJ,hP,hY];repeat' (first | exact Ok.out | with_reducible refine aO ?_ ?_ | (simp;done))))
  | cons y rest=>
   obtain⟨hJ,g2,hD,g4⟩:=drop_cons h1
   have bB:k<4611686018427387904:=by omega
   simp only [Ex.iy]at h2
   simp only [Ex.aT]at h3
   have hy:=fun {s:St} {t:Nat} (ht:s.av[t]? = some (some br.length))=>hk y (List.mem_of_getElem? hJ) br (by omega) ht
   have hl:=nr br y
   repeat' (first
 | simp only [go_sem,hD,hJ,hP,hY]
 | (with_reducible refine CU (hy (by with_unfolding_all rfl)) ?_)
 | (with_reducible refine aJ hQ ?_;simp only [az,aB,Option.some.injEq,exists_eq_left',go_sem,hD,hJ,hP,hY];repeat' (first | exact Ok.out | with_reducible refine aO ?_ ?_ | (simp;done))))
   refine dA 1 1 ?_ ?_ (IH (rest,k+1,_,_) ⟨g2,h2,by dsimp only;omega,rfl⟩ (Nat.lt_succ_self _))
   ·(simp only [go_sem,hD,hJ,hP,hY,aH bB];try exact bw)
   ·(simp only [go_sem,hD,hJ,hP,hY,aH bB];try exact bw)
theorem Jg : ∀ N,Gv N:=by
 intro N
 induction N with
 | zero=>rintro⟨op,m,name,kids⟩ h;simp only [Ex.size]at h;omega
 | succ N ih=>
  rintro⟨op,m,name,kids⟩ h out ho s t ht
  exact(N8 ih h ho).MS (pre:= [_]) (post:= []) (by simp only [D.bI,D.ok,kl];rfl) rfl (fi out) (fi _) ht
end Go.Abs

/-! Nm2 -/

namespace Go.Abs
set_option maxRecDepth 8000
open Go.Proofs
theorem Gw {op m:Int} {name:aD} {kids:List Ex} (h:Ex.form ⟨op,m,name,kids⟩=true) (h2:(op==2)=true):kids = []:=by
 have e:op=2:=by simpa using h2
 subst e
 simp only [Ex.form]at h
 split at h
 ·cases h
 ·rename_i hh
  simp only [Bool.or_eq_true,not_or,bne_iff_ne,ne_eq,Decidable.not_not]at hh
  have:=hh.1.1.1.1
  have e:lD 2=0:=rfl
  rw [e]at this
  exact List.length_eq_zero_iff.1 (by omega)
theorem Jh {op m:Int} {name:aD} {kids:List Ex} (hf:(op==2)=true→kids = []) (ho:Ex.size ⟨op,m,name,kids⟩≤1000000000) (s:St) :
 aI Try.prog fy [.agg (bA ⟨op,m,name,kids⟩), .slice .full 0 []] s (.slice .shared 1 ((Ex.jR [] ⟨op,m,name,kids⟩).map encStr)) s:=by
 refine aI.pure ?_ (by simp only [D.bI,D.ok,kl];rfl) (by simp only [D.ok,Tag.ok,fi];rfl) s
 obtain⟨R,hG⟩ : ∃ R,Ex.jR [] ⟨op,m,name,kids⟩=R:=⟨_,rfl⟩
 rw [hG]
 simp only [Ex.jR]at hG
 simp only [Ex.size]at ho
 have hlen:kids.length<1000000000:=by have:=Ex.cP kids;omega
 have hk : ∀ y∈kids,∀ out:List aD,out.length+y.size≤1000000000→∀ {s:St} {t:Nat},s.av[t]? = some (some out.length)→
  aI Try.prog fy [.agg (bA y), .slice (.tok t) 1 (out.map encStr)] s (.slice (.tok t) 1 ((y.jR out).map encStr)) ⟨s.au,s.av.set t (some (y.jR out).length)⟩:=fun y hy out ho=>
  Jg y.size y (Nat.le_refl _) out ho
 unfold S0
 rcases Bool.eq_false_or_eq_true (op==2)with b1 | b1
 ·have N9:=hf b1
  subst N9
  have e:eg [] name=false:=rfl
  simp only [b1,e,Bool.not_false,Bool.and_true,if_true,Ex.iy,List.nil_append]at hG
  subst hG
  refine aI.go mI rfl fun B Q hB hQ=> ?_
  have⟨hD,hJ,hP,hY⟩:=cf
  have hP:17≤bH:=by unfold bH;omega
  repeat' (first
 | simp only [go_sem,hD,hJ,hP,hY,b1,List.map_nil,List.map_cons,List.length_nil,encStr,Int.natCast_zero,Int.lt_irrefl,decide_false]
 | (with_reducible refine CU (Av name _ _ _) ?_)
 | (with_reducible refine bp.yY ?_)
 | (with_reducible refine aJ hQ ?_;simp only [az,aB,Option.some.injEq,exists_eq_left',go_sem,hD,hJ,hP,hY];repeat' (first | exact Ok.out | with_reducible refine aO ?_ ?_ | (simp;done))))
 ·simp only [b1,Bool.false_and,Bool.false_eq_true,if_false]at hG
  refine aI.go mI rfl fun B Q hB hQ=> ?_
  have⟨hD,hJ,hP,hY⟩:=cf
  repeat' (first
 | simp only [go_sem,hD,hJ,hP,hY,b1]
 | (with_reducible refine aJ hQ ?_;simp only [az,aB,Option.some.injEq,exists_eq_left',go_sem,hD,hJ,hP,hY];repeat' (first | exact Ok.out | with_reducible refine aO ?_ ?_ | (simp;done))))
  refine bp.qB 1 1 rfl ?_
  simp only [go_sem,hD,hJ,hP,hY]
  refine dF 1 1 (bp.ind (ι:=List Ex×Nat×List aD×Nat) (fun i=>kids.drop i.2.1=i.1∧Ex.iy i.2.2.1 i.1=R∧i.2.2.1.length+Ex.aT i.1≤1000000000∧i.2.2.2=i.2.2.1.length) (fun i=>i.1.length)
   (fun i=> [(1, .slice (.tok 0) 1 (i.2.2.1.map encStr)),(2, .ptr 0 0),(23, .slice .shared 4 (kids.map bA)),(24, .int .i64 (kids.length:Int)),(25, .int .i64 (i.2.1:Int))]) (fun i=>⟨[bA ⟨op,m,name,kids⟩],[some i.2.2.2]⟩) ?_ (kids,0,[],0) ⟨rfl,hG,by simp;omega,by simp⟩)
  rintro⟨rest,k,br,n'⟩ ⟨h1,h2,h3,h4⟩ IH
  dsimp only at h1 h2 h3 h4
  subst h4
  cases rest with
  | nil=>
   have hD:=drop_nil h1
   simp only [Ex.iy]at h2
   subst h2
   repeat' (first
 | simp only [go_sem,hD,hJ,hP,hY]
 | (with_reducible refine aJ hQ ?_;simp only [az,aB,Option.some.injEq,exists_eq_left',go_sem,hD,hJ,hP,hY];repeat' (first | exact Ok.out | with_reducible refine aO ?_ ?_ | (simp;done))))
  | cons y rest=>
   obtain⟨hJ,g2,hD,g4⟩:=drop_cons h1
   have bB:k<4611686018427387904:=by omega
   simp only [Ex.iy]at h2
   simp only [Ex.aT]at h3
   have hy:=fun {s:St} {t:Nat} (ht:s.av[t]? = some (some br.length))=>hk y (List.mem_of_getElem? hJ) br (by omega) ht
   have hl:=nr br y
   repeat' (first
 | simp only [go_sem,hD,hJ,hP,hY]
 | (with_reducible refine CU (hy (by with_unfolding_all rfl)) ?_)
 | (with_reducible refine aJ hQ ?_;simp only [az,aB,Option.some.injEq,exists_eq_left',go_sem,hD,hJ,hP,hY];repeat' (first | exact Ok.out | with_reducible refine aO ?_ ?_ | (simp;done))))
   refine dA 1 1 ?_ ?_ (IH (rest,k+1,_,_) ⟨g2,h2,by dsimp only;omega,rfl⟩ (Nat.lt_succ_self _))
   ·(simp only [go_sem,hD,hJ,hP,hY,aH bB];try exact bw)
   ·(simp only [go_sem,hD,hJ,hP,hY,aH bB];try exact bw)
theorem jA {x:Ex} (hx:x.size≤1000000000) (ht:x.texts) (s:St):aI Try.prog mz [.agg (bA x)] s (.slice .shared 1 (x.names.map encStr)) s:=by
 refine aI.pure ?_ (by simp only [D.bI,D.ok,kl];rfl) (by simp only [D.ok,Tag.ok,fi];rfl) s
 have hm:=fun s=>wm (x:=x) (by omega) ht s
 simp only [Gu]at hm
 unfold Ex.names
 unfold S0
 cases hb:x.may
 ·simp only [hb]at hm
  simp only [Bool.false_eq_true,if_false,List.map_nil]
  refine aI.go q8 rfl fun B Q hB hQ=> ?_
  have⟨hD,hJ,hP,hY⟩:=cf
  repeat' (first
 | simp only [go_sem,hD,hJ,hP,hY]
 | (with_reducible refine CU (hm _) ?_)
 | (with_reducible refine aJ hQ ?_;simp only [az,aB,Option.some.injEq,exists_eq_left',go_sem,hD,hJ,hP,hY];repeat' (first | exact Ok.out | with_reducible refine aO ?_ ?_ | (simp;done))))
 ·simp only [hb]at hm
  simp only [if_true]
  have hg : ∀ s,aI Try.prog fy [.agg (bA x), .slice .full 0 []] s (.slice .shared 1 ((x.jR []).map encStr)) s:=by
   intro s
   obtain⟨op,m,name,kids⟩:=x
   exact Jh (fun h2=>Gw (by simp only [Ex.may,Bool.and_eq_true]at hb;exact hb.2) h2) hx s
  refine aI.go q8 rfl fun B Q hB hQ=> ?_
  have⟨hD,hJ,hP,hY⟩:=cf
  repeat' (first
 | simp only [go_sem,hD,hJ,hP,hY]
 | (with_reducible refine CU (hm _) ?_)
 | (with_reducible refine CU (hg _) ?_)
 | (with_reducible refine aJ hQ ?_;simp only [az,aB,Option.some.injEq,exists_eq_left',go_sem,hD,hJ,hP,hY];repeat' (first | exact Ok.out | with_reducible refine aO ?_ ?_ | (simp;done))))
end Go.Abs

/-! Nm3 -/

namespace Go.Abs
set_option maxRecDepth 8000
open Go.Proofs
def Ar.said (out:List aD):List Ar→List aD
 | []=>out
 | a::l=>Ar.said ((if a.ref then out++ [a.name]else out)++a.x.names) l
def Sm.oV (v:Sm):List aD:=if v.kind != 10 && v.name != []then [v.name]else []
def Sm.said (v:Sm):List aD:=Ar.said (v.oV++v.x.names) v.args
theorem gU (x:Ex):x.names.length≤x.size:=by
 unfold Ex.names
 split
 ·simpa using nr [] x
 ·exact Nat.zero_le _
def Ar.pz:List Ar→Prop
 | []=>True
 | a::l=>a.x.texts∧Ar.pz l
def Sm.kc (v:Sm):Prop:=v.x.texts∧(∀ a∈v.args,a.x.texts)∧v.x.size+Ar.aT v.args<1000000
theorem gC {l nx:List aD} {n:Nat} (hn:n=l.length) (h:l.length+nx.length≤1000000000) {g:Tag} (o:List (List D)) :
 kI 1 16 (.slice (.tok 0) 1 (l.map encStr)) (.slice g 1 (nx.map encStr)) ⟨o,[some n]⟩=some (.slice (.tok 0) 1 ((l++nx).map encStr),⟨o,[some (l++nx).length]⟩):=by
 subst hn
 have:=Ae (size:=1) (bytes:=16) (t:=0) (rows:=l.map encStr) (new:=nx.map encStr) (g:=g) (s:=⟨o,[some l.length]⟩) (by simp only [List.length_map];unfold bH;omega) (by simp)
 rw [this]
 simp
theorem tC {v:Sm} (hv:v.kc) (s:St):aI Try.prog mq [.agg (bf v)] s (.slice .shared 1 (v.said.map encStr)) s:=by
 refine aI.pure ?_ (by simp only [D.bI,D.ok,mn];rfl) (by simp only [D.ok,Tag.ok,fi];rfl) s
 obtain⟨ZC,Gx,dE⟩:=hv
 obtain⟨R,hG⟩ : ∃ R,v.said=R:=⟨_,rfl⟩
 rw [hG]
 simp only [Sm.said]at hG
 have hlen:v.args.length<1000000000:=by have:=Ar.cP v.args;omega
 have hx:=fun s=>jA (x:=v.x) (by omega) ZC s
 have B8:=gU v.x
 unfold S0
 refine aI.go xe rfl fun B Q hB hQ=> ?_
 have⟨hD,hJ,hP,hY⟩:=cf
 have hP:17≤bH:=by unfold bH;omega
 by_cases hb:(v.kind != 10 && v.name != [])=true
 ·simp only [Sm.oV,hb,if_true]at hG
  rw [Bool.and_eq_true]at hb
  obtain⟨b1,b2⟩:=hb
  have ez:=gC (l:= [v.name]) (nx:=v.x.names) (n:=1) rfl (by simp;omega) (g:= .shared)
  simp only [List.map_append,List.map_cons,List.map_nil,encStr]at ez
  have b3:(v.name == [])=false:=by simpa using b2
  repeat' (first
 | simp only [go_sem,hD,hJ,hP,hY,b1,b2,b3,ez]
 | (with_reducible refine CU (hx _) ?_)
 | (with_reducible refine aJ hQ ?_;simp only [az,aB,Option.some.injEq,exists_eq_left',go_sem,hD,hJ,hP,hY];repeat' (first | exact Ok.out | with_reducible refine aO ?_ ?_ | (simp;done))))
  refine dA 1 1 ?_ ?_ (bp.ind (ι:=List Ar×Nat×List aD×Nat) (fun i=>v.args.drop i.2.1=i.1∧Ar.said i.2.2.1 i.1=R∧i.2.2.1.length+Ar.aT i.1≤2000000∧i.2.2.2=i.2.2.1.length) (fun i=>i.1.length)
   (fun i=> [(3, .slice (.tok 0) 1 (i.2.2.1.map encStr)),(1, .ptr 0 0),(25, .slice .shared 6 (v.args.map c7)),(26, .int .i64 (v.args.length:Int)),(27, .int .i64 (i.2.1:Int))]) (fun i=>⟨[bf v],[some i.2.2.2]⟩) ?_ (v.args,0,([v.name]++v.x.names),(v.x.names.length+1)) ⟨rfl,hG,by simp at B8 ⊢;omega,by simp⟩)
  ·(simp only [go_sem,hD,hJ,hP,hY,List.map_append,List.map_cons,List.map_nil,encStr];try exact bw)
  ·(simp only [go_sem,hD,hJ,hP,hY,List.map_append,List.map_cons,List.map_nil,encStr];try exact bw)
  rintro⟨rest,k,out,n'⟩ ⟨h1,h2,h3,h4⟩ IH
  dsimp only at h1 h2 h3 h4
  subst h4
  cases rest with
  | nil=>
   have hD:=drop_nil h1
   simp only [Ar.said]at h2
   subst h2
   repeat' (first
 | simp only [go_sem,hD,hJ,hP,hY]
 | (with_reducible refine aJ hQ ?_;simp only [az,aB,Option.some.injEq,exists_eq_left',go_sem,hD,hJ,hP,hY];repeat' (first | exact Ok.out | with_reducible refine aO ?_ ?_ | (simp;done))))
  | cons a rest=>
   obtain⟨hJ,g2,hD,g4⟩:=drop_cons h1
   have bB:k<4611686018427387904:=by omega
   simp only [Ar.said]at h2
   simp only [Ar.aT]at h3
   have qh:=fun s=>jA (x:=a.x) (by have:=Ar.b6 (List.mem_of_getElem? hJ);omega) (Gx a (List.mem_of_getElem? hJ)) s
   have hl:=gU a.x
   have hP:(out.length+1)*17≤bH:=by unfold bH;omega
   rcases Bool.eq_false_or_eq_true a.ref with b1 | b1
   ·simp only [b1,if_true]at h2
    have ez:=gC (l:=out++ [a.name]) (nx:=a.x.names) (n:=out.length+1) (by simp) (by simp;omega) (g:= .shared)
    simp only [List.map_append,List.map_cons,List.map_nil,encStr]at ez
    repeat' (first
 | simp only [go_sem,hD,hJ,hP,hY,b1,ez]
 | (with_reducible refine CU (qh _) ?_)
 | (with_reducible refine aJ hQ ?_;simp only [az,aB,Option.some.injEq,exists_eq_left',go_sem,hD,hJ,hP,hY];repeat' (first | exact Ok.out | with_reducible refine aO ?_ ?_ | (simp;done))))
    refine dA 1 1 ?_ ?_ (IH (rest,k+1,out++ [a.name]++a.x.names,_) ⟨g2,h2,by simp;omega,by simp <;> omega⟩ (Nat.lt_succ_self _))
    ·(simp only [go_sem,hD,hJ,hP,hY,aH bB,List.map_append,List.map_cons,List.map_nil,encStr];try exact bw)
    ·(simp only [go_sem,hD,hJ,hP,hY,aH bB,List.map_append,List.map_cons,List.map_nil,encStr];try exact bw)
   ·simp only [b1,Bool.false_eq_true,if_false]at h2
    have ez:=gC (l:=out) (nx:=a.x.names) rfl (by omega) (g:= .shared)
    repeat' (first
 | simp only [go_sem,hD,hJ,hP,hY,b1,ez]
 | (with_reducible refine CU (qh _) ?_)
 | (with_reducible refine aJ hQ ?_;simp only [az,aB,Option.some.injEq,exists_eq_left',go_sem,hD,hJ,hP,hY];repeat' (first | exact Ok.out | with_reducible refine aO ?_ ?_ | (simp;done))))
    refine dA 1 1 ?_ ?_ (IH (rest,k+1,out++a.x.names,_) ⟨g2,h2,by simp;omega,by simp <;> omega⟩ (Nat.lt_succ_self _))
    ·(simp only [go_sem,hD,hJ,hP,hY,aH bB];try exact bw)
    ·(simp only [go_sem,hD,hJ,hP,hY,aH bB];try exact bw)
 ·simp only [Sm.oV,hb,Bool.false_eq_true,if_false,List.nil_append]at hG
  have pW:(v.kind != 10 && v.name != [])=false:=by simpa using hb
  obtain⟨nx,Ro⟩ : ∃ nx,nx=v.x.names:=⟨_,rfl⟩
  rw [← Ro]at hG B8
  simp only [← Ro]at hx
  by_cases zD:nx = []
  ·subst zD
   simp only [List.map_nil]at hx
   have ez : ∀ o:List (List D),kI 1 16 (.slice .full 0 []) (.slice .shared 1 []) ⟨o,[]⟩=some (.slice .full 0 [],⟨o,[]⟩):=fun o=>by simp [kI,bH]
   have HB:(v.kind != 10)=false∨(v.kind != 10)=true∧(v.name != [])=false:=by
    cases h1:(v.kind != 10)
    ·exact .inl rfl
    ·rw [h1]at pW;exact .inr ⟨rfl,by simpa using pW⟩
   rcases HB with b1 | ⟨b1,b2⟩
   ·rcases Bool.eq_false_or_eq_true (v.name != [])with b2 | b2
    all_goals
     have b3:(v.name == []) = !(v.name != []):=by simp only [bne,Bool.not_not]
     rw [b2]at b3
     repeat' (first
 | simp only [go_sem,hD,hJ,hP,hY,b1,b2,b3,Bool.not_true,Bool.not_false,ez]
 | (with_reducible refine CU (hx _) ?_)
 | (with_reducible refine aJ hQ ?_;simp only [az,aB,Option.some.injEq,exists_eq_left',go_sem,hD,hJ,hP,hY];repeat' (first | exact Ok.out | with_reducible refine aO ?_ ?_ | (simp;done))))
    all_goals
     refine bp.qB 3 1 rfl ?_
     simp only [go_sem,hD,hJ,hP,hY]
     refine dF 1 1 (bp.ind (ι:=List Ar×Nat×List aD×Nat) (fun i=>v.args.drop i.2.1=i.1∧Ar.said i.2.2.1 i.1=R∧i.2.2.1.length+Ar.aT i.1≤2000000∧i.2.2.2=i.2.2.1.length) (fun i=>i.1.length)
      (fun i=> [(3, .slice (.tok 0) 1 (i.2.2.1.map encStr)),(1, .ptr 0 0),(25, .slice .shared 6 (v.args.map c7)),(26, .int .i64 (v.args.length:Int)),(27, .int .i64 (i.2.1:Int))]) (fun i=>⟨[bf v],[some i.2.2.2]⟩) ?_ (v.args,0,[],0) ⟨rfl,hG,by simp at B8 ⊢;omega,by simp⟩)
     rintro⟨rest,k,out,n'⟩ ⟨h1,h2,h3,h4⟩ IH
     dsimp only at h1 h2 h3 h4
     subst h4
     cases rest with
     | nil=>
      have hD:=drop_nil h1
      simp only [Ar.said]at h2
      subst h2
      repeat' (first
 | simp only [go_sem,hD,hJ,hP,hY]
 | (with_reducible refine aJ hQ ?_;simp only [az,aB,Option.some.injEq,exists_eq_left',go_sem,hD,hJ,hP,hY];repeat' (first | exact Ok.out | with_reducible refine aO ?_ ?_ | (simp;done))))
     | cons a rest=>
      obtain⟨hJ,g2,hD,g4⟩:=drop_cons h1
      have bB:k<4611686018427387904:=by omega
      simp only [Ar.said]at h2
      simp only [Ar.aT]at h3
      have qh:=fun s=>jA (x:=a.x) (by have:=Ar.b6 (List.mem_of_getElem? hJ);omega) (Gx a (List.mem_of_getElem? hJ)) s
      have hl:=gU a.x
      have hP:(out.length+1)*17≤bH:=by unfold bH;omega
      rcases Bool.eq_false_or_eq_true a.ref with b1 | b1
      ·simp only [b1,if_true]at h2
       have ez:=gC (l:=out++ [a.name]) (nx:=a.x.names) (n:=out.length+1) (by simp) (by simp;omega) (g:= .shared)
       simp only [List.map_append,List.map_cons,List.map_nil,encStr]at ez
       repeat' (first
 | simp only [go_sem,hD,hJ,hP,hY,b1,ez]
 | (with_reducible refine CU (qh _) ?_)
 | (with_reducible refine aJ hQ ?_;simp only [az,aB,Option.some.injEq,exists_eq_left',go_sem,hD,hJ,hP,hY];repeat' (first | exact Ok.out | with_reducible refine aO ?_ ?_ | (simp;done))))
       refine dA 1 1 ?_ ?_ (IH (rest,k+1,out++ [a.name]++a.x.names,_) ⟨g2,h2,by simp;omega,by simp <;> omega⟩ (Nat.lt_succ_self _))
       ·(simp only [go_sem,hD,hJ,hP,hY,aH bB,List.map_append,List.map_cons,List.map_nil,encStr];try exact bw)
       ·(simp only [go_sem,hD,hJ,hP,hY,aH bB,List.map_append,List.map_cons,List.map_nil,encStr];try exact bw)
      ·simp only [b1,Bool.false_eq_true,if_false]at h2
       have ez:=gC (l:=out) (nx:=a.x.names) rfl (by omega) (g:= .shared)
       repeat' (first
 | simp only [go_sem,hD,hJ,hP,hY,b1,ez]
 | (with_reducible refine CU (qh _) ?_)
 | (with_reducible refine aJ hQ ?_;simp only [az,aB,Option.some.injEq,exists_eq_left',go_sem,hD,hJ,hP,hY];repeat' (first | exact Ok.out | with_reducible refine aO ?_ ?_ | (simp;done))))
       refine dA 1 1 ?_ ?_ (IH (rest,k+1,out++a.x.names,_) ⟨g2,h2,by simp;omega,by simp <;> omega⟩ (Nat.lt_succ_self _))
       ·(simp only [go_sem,hD,hJ,hP,hY,aH bB];try exact bw)
       ·(simp only [go_sem,hD,hJ,hP,hY,aH bB];try exact bw)
   ·have b3:(v.name == [])=true:=by simpa using b2
    repeat' (first
 | simp only [go_sem,hD,hJ,hP,hY,b1,b2,b3,ez]
 | (with_reducible refine CU (hx _) ?_)
 | (with_reducible refine aJ hQ ?_;simp only [az,aB,Option.some.injEq,exists_eq_left',go_sem,hD,hJ,hP,hY];repeat' (first | exact Ok.out | with_reducible refine aO ?_ ?_ | (simp;done))))
    refine bp.qB 3 1 rfl ?_
    simp only [go_sem,hD,hJ,hP,hY]
    refine dF 1 1 (bp.ind (ι:=List Ar×Nat×List aD×Nat) (fun i=>v.args.drop i.2.1=i.1∧Ar.said i.2.2.1 i.1=R∧i.2.2.1.length+Ar.aT i.1≤2000000∧i.2.2.2=i.2.2.1.length) (fun i=>i.1.length)
     (fun i=> [(3, .slice (.tok 0) 1 (i.2.2.1.map encStr)),(1, .ptr 0 0),(25, .slice .shared 6 (v.args.map c7)),(26, .int .i64 (v.args.length:Int)),(27, .int .i64 (i.2.1:Int))]) (fun i=>⟨[bf v],[some i.2.2.2]⟩) ?_ (v.args,0,[],0) ⟨rfl,hG,by simp at B8 ⊢;omega,by simp⟩)
    rintro⟨rest,k,out,n'⟩ ⟨h1,h2,h3,h4⟩ IH
    dsimp only at h1 h2 h3 h4
    subst h4
    cases rest with
    | nil=>
     have hD:=drop_nil h1
     simp only [Ar.said]at h2
     subst h2
     repeat' (first
 | simp only [go_sem,hD,hJ,hP,hY]
 | (with_reducible refine aJ hQ ?_;simp only [az,aB,Option.some.injEq,exists_eq_left',go_sem,hD,hJ,hP,hY];repeat' (first | exact Ok.out | with_reducible refine aO ?_ ?_ | (simp;done))))
    | cons a rest=>
     obtain⟨hJ,g2,hD,g4⟩:=drop_cons h1
     have bB:k<4611686018427387904:=by omega
     simp only [Ar.said]at h2
     simp only [Ar.aT]at h3
     have qh:=fun s=>jA (x:=a.x) (by have:=Ar.b6 (List.mem_of_getElem? hJ);omega) (Gx a (List.mem_of_getElem? hJ)) s
     have hl:=gU a.x
     have hP:(out.length+1)*17≤bH:=by unfold bH;omega
     rcases Bool.eq_false_or_eq_true a.ref with b1 | b1
     ·simp only [b1,if_true]at h2
      have ez:=gC (l:=out++ [a.name]) (nx:=a.x.names) (n:=out.length+1) (by simp) (by simp;omega) (g:= .shared)
      simp only [List.map_append,List.map_cons,List.map_nil,encStr]at ez
      repeat' (first
 | simp only [go_sem,hD,hJ,hP,hY,b1,ez]
 | (with_reducible refine CU (qh _) ?_)
 | (with_reducible refine aJ hQ ?_;simp only [az,aB,Option.some.injEq,exists_eq_left',go_sem,hD,hJ,hP,hY];repeat' (first | exact Ok.out | with_reducible refine aO ?_ ?_ | (simp;done))))
      refine dA 1 1 ?_ ?_ (IH (rest,k+1,out++ [a.name]++a.x.names,_) ⟨g2,h2,by simp;omega,by simp <;> omega⟩ (Nat.lt_succ_self _))
      ·(simp only [go_sem,hD,hJ,hP,hY,aH bB,List.map_append,List.map_cons,List.map_nil,encStr];try exact bw)
      ·(simp only [go_sem,hD,hJ,hP,hY,aH bB,List.map_append,List.map_cons,List.map_nil,encStr];try exact bw)
     ·simp only [b1,Bool.false_eq_true,if_false]at h2
      have ez:=gC (l:=out) (nx:=a.x.names) rfl (by omega) (g:= .shared)
      repeat' (first
 | simp only [go_sem,hD,hJ,hP,hY,b1,ez]
 | (with_reducible refine CU (qh _) ?_)
 | (with_reducible refine aJ hQ ?_;simp only [az,aB,Option.some.injEq,exists_eq_left',go_sem,hD,hJ,hP,hY];repeat' (first | exact Ok.out | with_reducible refine aO ?_ ?_ | (simp;done))))
      refine dA 1 1 ?_ ?_ (IH (rest,k+1,out++a.x.names,_) ⟨g2,h2,by simp;omega,by simp <;> omega⟩ (Nat.lt_succ_self _))
      ·(simp only [go_sem,hD,hJ,hP,hY,aH bB];try exact bw)
      ·(simp only [go_sem,hD,hJ,hP,hY,aH bB];try exact bw)
  ·have ez : ∀ o:List (List D),kI 1 16 (.slice .full 0 []) (.slice .shared 1 (nx.map encStr)) ⟨o,[]⟩=some (.slice (.tok 0) 1 (nx.map encStr),⟨o,[some nx.length]⟩):=fun o=>by
    have:nx.length*17≤bH:=by unfold bH;omega
    cases nx with
    | nil=>exact absurd rfl zD
    | cons a r=>simp only [List.length_cons]at this;simp [kI,this]
   have HB:(v.kind != 10)=false∨(v.kind != 10)=true∧(v.name != [])=false:=by
    cases h1:(v.kind != 10)
    ·exact .inl rfl
    ·rw [h1]at pW;exact .inr ⟨rfl,by simpa using pW⟩
   rcases HB with b1 | ⟨b1,b2⟩
   ·rcases Bool.eq_false_or_eq_true (v.name != [])with b2 | b2
    all_goals
     have b3:(v.name == []) = !(v.name != []):=by simp only [bne,Bool.not_not]
     rw [b2]at b3
     repeat' (first
 | simp only [go_sem,hD,hJ,hP,hY,b1,b2,b3,Bool.not_true,Bool.not_false,ez]
 | (with_reducible refine CU (hx _) ?_)
 | (with_reducible refine aJ hQ ?_;simp only [az,aB,Option.some.injEq,exists_eq_left',go_sem,hD,hJ,hP,hY];repeat' (first | exact Ok.out | with_reducible refine aO ?_ ?_ | (simp;done))))
    all_goals
     refine dF 1 1 (bp.ind (ι:=List Ar×Nat×List aD×Nat) (fun i=>v.args.drop i.2.1=i.1∧Ar.said i.2.2.1 i.1=R∧i.2.2.1.length+Ar.aT i.1≤2000000∧i.2.2.2=i.2.2.1.length) (fun i=>i.1.length)
      (fun i=> [(3, .slice (.tok 0) 1 (i.2.2.1.map encStr)),(1, .ptr 0 0),(25, .slice .shared 6 (v.args.map c7)),(26, .int .i64 (v.args.length:Int)),(27, .int .i64 (i.2.1:Int))]) (fun i=>⟨[bf v],[some i.2.2.2]⟩) ?_ (v.args,0,nx,_) ⟨rfl,hG,by simp at B8 ⊢;omega,by simp⟩)
     rintro⟨rest,k,out,n'⟩ ⟨h1,h2,h3,h4⟩ IH
     dsimp only at h1 h2 h3 h4
     subst h4
     cases rest with
     | nil=>
      have hD:=drop_nil h1
      simp only [Ar.said]at h2
      subst h2
      repeat' (first
 | simp only [go_sem,hD,hJ,hP,hY]
 | (with_reducible refine aJ hQ ?_;simp only [az,aB,Option.some.injEq,exists_eq_left',go_sem,hD,hJ,hP,hY];repeat' (first | exact Ok.out | with_reducible refine aO ?_ ?_ | (simp;done))))
     | cons a rest=>
      obtain⟨hJ,g2,hD,g4⟩:=drop_cons h1
      have bB:k<4611686018427387904:=by omega
      simp only [Ar.said]at h2
      simp only [Ar.aT]at h3
      have qh:=fun s=>jA (x:=a.x) (by have:=Ar.b6 (List.mem_of_getElem? hJ);omega) (Gx a (List.mem_of_getElem? hJ)) s
      have hl:=gU a.x
      have hP:(out.length+1)*17≤bH:=by unfold bH;omega
      rcases Bool.eq_false_or_eq_true a.ref with b1 | b1
      ·simp only [b1,if_true]at h2
       have ez:=gC (l:=out++ [a.name]) (nx:=a.x.names) (n:=out.length+1) (by simp) (by simp;omega) (g:= .shared)
       simp only [List.map_append,List.map_cons,List.map_nil,encStr]at ez
       repeat' (first
 | simp only [go_sem,hD,hJ,hP,hY,b1,ez]
 | (with_reducible refine CU (qh _) ?_)
 | (with_reducible refine aJ hQ ?_;simp only [az,aB,Option.some.injEq,exists_eq_left',go_sem,hD,hJ,hP,hY];repeat' (first | exact Ok.out | with_reducible refine aO ?_ ?_ | (simp;done))))
       refine dA 1 1 ?_ ?_ (IH (rest,k+1,out++ [a.name]++a.x.names,_) ⟨g2,h2,by simp;omega,by simp <;> omega⟩ (Nat.lt_succ_self _))
       ·(simp only [go_sem,hD,hJ,hP,hY,aH bB,List.map_append,List.map_cons,List.map_nil,encStr];try exact bw)
       ·(simp only [go_sem,hD,hJ,hP,hY,aH bB,List.map_append,List.map_cons,List.map_nil,encStr];try exact bw)
      ·simp only [b1,Bool.false_eq_true,if_false]at h2
       have ez:=gC (l:=out) (nx:=a.x.names) rfl (by omega) (g:= .shared)
       repeat' (first
 | simp only [go_sem,hD,hJ,hP,hY,b1,ez]
 | (with_reducible refine CU (qh _) ?_)
 | (with_reducible refine aJ hQ ?_;simp only [az,aB,Option.some.injEq,exists_eq_left',go_sem,hD,hJ,hP,hY];repeat' (first | exact Ok.out | with_reducible refine aO ?_ ?_ | (simp;done))))
       refine dA 1 1 ?_ ?_ (IH (rest,k+1,out++a.x.names,_) ⟨g2,h2,by simp;omega,by simp <;> omega⟩ (Nat.lt_succ_self _))
       ·(simp only [go_sem,hD,hJ,hP,hY,aH bB];try exact bw)
       ·(simp only [go_sem,hD,hJ,hP,hY,aH bB];try exact bw)
   ·have b3:(v.name == [])=true:=by simpa using b2
    repeat' (first
 | simp only [go_sem,hD,hJ,hP,hY,b1,b2,b3,ez]
 | (with_reducible refine CU (hx _) ?_)
 | (with_reducible refine aJ hQ ?_;simp only [az,aB,Option.some.injEq,exists_eq_left',go_sem,hD,hJ,hP,hY];repeat' (first | exact Ok.out | with_reducible refine aO ?_ ?_ | (simp;done))))
    refine dF 1 1 (bp.ind (ι:=List Ar×Nat×List aD×Nat) (fun i=>v.args.drop i.2.1=i.1∧Ar.said i.2.2.1 i.1=R∧i.2.2.1.length+Ar.aT i.1≤2000000∧i.2.2.2=i.2.2.1.length) (fun i=>i.1.length)
     (fun i=> [(3, .slice (.tok 0) 1 (i.2.2.1.map encStr)),(1, .ptr 0 0),(25, .slice .shared 6 (v.args.map c7)),(26, .int .i64 (v.args.length:Int)),(27, .int .i64 (i.2.1:Int))]) (fun i=>⟨[bf v],[some i.2.2.2]⟩) ?_ (v.args,0,nx,_) ⟨rfl,hG,by simp at B8 ⊢;omega,by simp⟩)
    rintro⟨rest,k,out,n'⟩ ⟨h1,h2,h3,h4⟩ IH
    dsimp only at h1 h2 h3 h4
    subst h4
    cases rest with
    | nil=>
     have hD:=drop_nil h1
     simp only [Ar.said]at h2
     subst h2
     repeat' (first
 | simp only [go_sem,hD,hJ,hP,hY]
 | (with_reducible refine aJ hQ ?_;simp only [az,aB,Option.some.injEq,exists_eq_left',go_sem,hD,hJ,hP,hY];repeat' (first | exact Ok.out | with_reducible refine aO ?_ ?_ | (simp;done))))
    | cons a rest=>
     obtain⟨hJ,g2,hD,g4⟩:=drop_cons h1
     have bB:k<4611686018427387904:=by omega
     simp only [Ar.said]at h2
     simp only [Ar.aT]at h3
     have qh:=fun s=>jA (x:=a.x) (by have:=Ar.b6 (List.mem_of_getElem? hJ);omega) (Gx a (List.mem_of_getElem? hJ)) s
     have hl:=gU a.x
     have hP:(out.length+1)*17≤bH:=by unfold bH;omega
     rcases Bool.eq_false_or_eq_true a.ref with b1 | b1
     ·simp only [b1,if_true]at h2
      have ez:=gC (l:=out++ [a.name]) (nx:=a.x.names) (n:=out.length+1) (by simp) (by simp;omega) (g:= .shared)
      simp only [List.map_append,List.map_cons,List.map_nil,encStr]at ez
      repeat' (first
 | simp only [go_sem,hD,hJ,hP,hY,b1,ez]
 | (with_reducible refine CU (qh _) ?_)
 | (with_reducible refine aJ hQ ?_;simp only [az,aB,Option.some.injEq,exists_eq_left',go_sem,hD,hJ,hP,hY];repeat' (first | exact Ok.out | with_reducible refine aO ?_ ?_ | (simp;done))))
      refine dA 1 1 ?_ ?_ (IH (rest,k+1,out++ [a.name]++a.x.names,_) ⟨g2,h2,by simp;omega,by simp <;> omega⟩ (Nat.lt_succ_self _))
      ·(simp only [go_sem,hD,hJ,hP,hY,aH bB,List.map_append,List.map_cons,List.map_nil,encStr];try exact bw)
      ·(simp only [go_sem,hD,hJ,hP,hY,aH bB,List.map_append,List.map_cons,List.map_nil,encStr];try exact bw)
     ·simp only [b1,Bool.false_eq_true,if_false]at h2
      have ez:=gC (l:=out) (nx:=a.x.names) rfl (by omega) (g:= .shared)
      repeat' (first
 | simp only [go_sem,hD,hJ,hP,hY,b1,ez]
 | (with_reducible refine CU (qh _) ?_)
 | (with_reducible refine aJ hQ ?_;simp only [az,aB,Option.some.injEq,exists_eq_left',go_sem,hD,hJ,hP,hY];repeat' (first | exact Ok.out | with_reducible refine aO ?_ ?_ | (simp;done))))
      refine dA 1 1 ?_ ?_ (IH (rest,k+1,out++a.x.names,_) ⟨g2,h2,by simp;omega,by simp <;> omega⟩ (Nat.lt_succ_self _))
      ·(simp only [go_sem,hD,hJ,hP,hY,aH bB];try exact bw)
      ·(simp only [go_sem,hD,hJ,hP,hY,aH bB];try exact bw)
end Go.Abs

/-! MayEq2 -/

namespace Go.Abs
theorem gN : ∀ (a b:List It) (n:Nat),It.ef n (a++b)=(It.ef n a && It.ef (n+a.length) b)
 | [],b,n=>by simp [It.ef]
 | i::a,b,n=>by
  simp only [List.cons_append,It.ef,gN a b (n+1),List.length_cons]
  have:n+1+a.length=n+(a.length+1):=by omega
  rw [this]
  split <;> simp
theorem wA (n:Nat) (i:It):It.ef n [i] = true↔i.s.id=((n+1:Nat):Int)∧i.deep≤12∧i.s.one=true:=by
 simp only [It.ef]
 split
 ·rename_i h
  simp only [Bool.or_eq_true,bne_iff_ne,ne_eq,decide_eq_true_eq,Bool.not_eq_true']at h
  refine⟨fun h=>(Bool.false_ne_true h).elim,fun⟨h1,h2,h3⟩=> ?_⟩
  rcases h with (h | h) | h
  ·exact(h h1).elim
  ·omega
  ·rw [h]at h3;cases h3
 ·rename_i h
  simp only [Bool.or_eq_true,bne_iff_ne,ne_eq,decide_eq_true_eq,Bool.not_eq_true',not_or,Decidable.not_not,Bool.not_eq_false]at h
  exact⟨fun _=>⟨h.1.1,by omega,h.2⟩,fun _=>rfl⟩
mutual
theorem tD (deep bC:Int) (aQ:Bool) : ∀ (s:Sm) (out:List It),∃ new,fz deep bC aQ out s=out++(⟨s,deep,bC,aQ⟩::new)
 | ⟨id,kind,labels,name,proc,x,has,args,aZ,e⟩,out=>by
  simp only [fz]
  split
  ·obtain⟨n1,h1⟩:=l5 (deep+1) id false aZ (out++ [⟨⟨id,kind,labels,name,proc,x,has,args,aZ,e⟩,deep,bC,aQ⟩])
   obtain⟨n2,h2⟩:=l5 (deep+1) id true e (cq (deep+1) id false (out++ [⟨⟨id,kind,labels,name,proc,x,has,args,aZ,e⟩,deep,bC,aQ⟩]) aZ)
   rw [h2,h1]
   exact⟨n1++n2,by simp⟩
  ·exact⟨[],rfl⟩
theorem l5 (deep bC:Int) (aQ:Bool) : ∀ (l:List Sm) (out:List It),∃ new,cq deep bC aQ out l=out++new
 | [],out=>⟨[],by simp [cq]⟩
 | s::l,out=>by
  simp only [cq]
  split
  ·obtain⟨n1,h1⟩:=tD deep bC aQ s out
   obtain⟨n2,h2⟩:=l5 deep bC aQ l (fz deep bC aQ out s)
   rw [h2,h1]
   exact⟨⟨s,deep,bC,aQ⟩::n1++n2,by simp⟩
  ·exact⟨[],by simp⟩
end
theorem ya {nest:Int} {n:Nat} {s:Sm} (h:(Sm.lp nest n s).1=true) :
 n+1≤200∧s.id=((n+1:Nat):Int)∧s.one=true∧(Sm.eC (nest+1) (n+1) s.aZ).1=true∧(Sm.eC (nest+1) (Sm.eC (nest+1) (n+1) s.aZ).2 s.aQ).1=true∧
 (Sm.lp nest n s).2=(Sm.eC (nest+1) (Sm.eC (nest+1) (n+1) s.aZ).2 s.aQ).2:=by
 rw [xq]at h ⊢
 split at h
 ·cases h
 rename_i h1
 simp only [Bool.or_eq_true,bne_iff_ne,ne_eq,decide_eq_true_eq,Bool.not_eq_true',not_or,Decidable.not_not,Bool.not_eq_false]at h1
 split at h
 ·cases h
 rename_i h2
 have qZ:(Sm.eC (nest+1) (n+1) s.aZ).1=true:=by simpa using h2
 refine⟨by omega,h1.1.1.2, ?_,qZ,h, ?_⟩
 ·rw [wz,h1.1.2,h1.2];rfl
 ·rw [if_neg (by simp only [Bool.or_eq_true,bne_iff_ne,ne_eq,decide_eq_true_eq,Bool.not_eq_true',not_or,Decidable.not_not,Bool.not_eq_false];exact h1),if_neg h2]
theorem n4 {nest:Int} {n:Nat} {l:List Sm} (h:(Sm.eC nest n l).1=true):(l = []∨nest≤12)∧Sm.eC nest n l=Sm.dm nest n l:=by
 unfold Sm.eC gate at *
 split at h
 ·cases h
 ·rename_i hc
  rw [if_neg hc]
  refine⟨?_,rfl⟩
  simp only [Bool.and_eq_true,decide_eq_true_eq,not_and]at hc
  cases l with
  | nil=>exact .inl rfl
  | cons s l=>right;simp only [List.length_cons]at hc;omega
mutual
theorem Gy : ∀ (s:Sm) (nest bC:Int) (aQ:Bool) (n:Nat) (out:List It),nest≤12→out.length≤n→n≤200→(Sm.lp nest n s).1=true→
 ∃ new,fz nest bC aQ out s=out++new∧It.ef n new=true∧n+new.length=(Sm.lp nest n s).2∧(Sm.lp nest n s).2≤200
 | ⟨id,kind,labels,name,proc,x,has,args,aZ,e⟩,nest,bC,aQ,n,out,Gz,ho,hn,h=>by
  obtain⟨h1,h2,h3,h4,h5,h6⟩:=ya h
  dsimp only at h2 h4 h5 h6
  rw [h6]
  obtain⟨g1,e1⟩:=n4 h4
  rw [e1]at h4 h5 ⊢
  obtain⟨g2,e2⟩:=n4 h5
  rw [e2]at h5 ⊢
  have ri:It.ef n [(⟨⟨id,kind,labels,name,proc,x,has,args,aZ,e⟩,nest,bC,aQ⟩:It)] = true:=(wA _ _).2 ⟨h2,Gz,h3⟩
  obtain⟨n1,k1,k2,k3,k4⟩:=qi aZ (nest+1) id false (n+1) (out++ [⟨⟨id,kind,labels,name,proc,x,has,args,aZ,e⟩,nest,bC,aQ⟩]) g1 (by simp;omega) h1 h4
  obtain⟨n2,j1,j2,j3,j4⟩:=qi e (nest+1) id true _ (out++ [⟨⟨id,kind,labels,name,proc,x,has,args,aZ,e⟩,nest,bC,aQ⟩]++n1) g2 (by simp;omega) k4 h5
  simp only [fz]
  rw [if_pos (by simpa using Gz),k1,j1]
  refine⟨⟨⟨id,kind,labels,name,proc,x,has,args,aZ,e⟩,nest,bC,aQ⟩::(n1++n2),by simp, ?_, ?_,j4⟩
  ·have:(⟨⟨id,kind,labels,name,proc,x,has,args,aZ,e⟩,nest,bC,aQ⟩:It)::(n1++n2) = [⟨⟨id,kind,labels,name,proc,x,has,args,aZ,e⟩,nest,bC,aQ⟩]++n1++n2:=by simp
   rw [this,gN,gN,ri,Bool.true_and]
   have e3:n+([(⟨⟨id,kind,labels,name,proc,x,has,args,aZ,e⟩,nest,bC,aQ⟩:It)]++n1).length=(Sm.dm (nest+1) (n+1) aZ).2:=by simp;omega
   rw [e3,j2]
   have e4:n + [(⟨⟨id,kind,labels,name,proc,x,has,args,aZ,e⟩,nest,bC,aQ⟩:It)].length=n+1:=rfl
   rw [e4,k2];rfl
  ·simp only [List.length_cons,List.length_append];omega
theorem qi : ∀ (l:List Sm) (nest bC:Int) (aQ:Bool) (n:Nat) (out:List It),(l = []∨nest≤12)→out.length≤n→n≤200→(Sm.dm nest n l).1=true→
 ∃ new,cq nest bC aQ out l=out++new∧It.ef n new=true∧n+new.length=(Sm.dm nest n l).2∧(Sm.dm nest n l).2≤200
 | [],nest,bC,aQ,n,out,Gz,ho,hn,h=>⟨[],by simp [cq],rfl,by simp [Sm.dm],by simpa [Sm.dm]using hn⟩
 | s::l,nest,bC,aQ,n,out,Gz,ho,hn,h=>by
  have Oa:nest≤12:=Gz.resolve_left (by simp)
  simp only [Sm.dm]at h ⊢
  split at h
  ·cases h
  rename_i hc
  rw [if_neg hc]
  obtain⟨n1,k1,k2,k3,k4⟩:=Gy s nest bC aQ n out Oa ho hn (by simpa using hc)
  obtain⟨n2,j1,j2,j3,j4⟩:=qi l nest bC aQ _ (out++n1) (.inr Oa) (by simp;omega) k4 h
  simp only [cq]
  rw [if_pos (by simp only [decide_eq_true_eq];omega),k1,j1]
  refine⟨n1++n2,by simp, ?_,by simp;omega,j4⟩
  rw [gN,k2,k3,j2];rfl
end
mutual
theorem GC : ∀ (s:Sm) (nest bC:Int) (aQ:Bool) (n:Nat) (out new:List It),fz nest bC aQ out s=out++new→It.ef n new=true→out.length≤n→n+new.length≤200→
 Sm.lp nest n s=(true,n+new.length)∧nest≤12
 | ⟨id,kind,labels,name,proc,x,has,args,aZ,e⟩,nest,bC,aQ,n,out,new,kN,hm,ho,hn=>by
  obtain⟨n0,h0⟩:=tD nest bC aQ ⟨id,kind,labels,name,proc,x,has,args,aZ,e⟩ out
  have e0:new = ⟨⟨id,kind,labels,name,proc,x,has,args,aZ,e⟩,nest,bC,aQ⟩::n0:=List.append_cancel_left (kN.symm.trans h0)
  subst e0
  have Qq:(⟨⟨id,kind,labels,name,proc,x,has,args,aZ,e⟩,nest,bC,aQ⟩:It)::n0 = [⟨⟨id,kind,labels,name,proc,x,has,args,aZ,e⟩,nest,bC,aQ⟩]++n0:=rfl
  rw [Qq,gN,Bool.and_eq_true]at hm
  obtain⟨AG,ZD⟩:=hm
  obtain⟨c1,c2,c3⟩:=(wA _ _).1 AG
  dsimp only at c1 c2 c3
  simp only [List.length_cons]at hn ⊢
  have Ji:cq (nest+1) id true (cq (nest+1) id false (out++ [⟨⟨id,kind,labels,name,proc,x,has,args,aZ,e⟩,nest,bC,aQ⟩]) aZ) e=out++([⟨⟨id,kind,labels,name,proc,x,has,args,aZ,e⟩,nest,bC,aQ⟩]++n0):=by
   simp only [fz]at kN
   rw [if_pos (by simpa using c2)]at kN
   exact kN
  obtain⟨n1,g1⟩:=l5 (nest+1) id false aZ (out++ [⟨⟨id,kind,labels,name,proc,x,has,args,aZ,e⟩,nest,bC,aQ⟩])
  obtain⟨n2,g2⟩:=l5 (nest+1) id true e (cq (nest+1) id false (out++ [⟨⟨id,kind,labels,name,proc,x,has,args,aZ,e⟩,nest,bC,aQ⟩]) aZ)
  have en:n0=n1++n2:=by
   rw [g2,g1]at Ji
   simp only [List.append_assoc,List.append_cancel_left_eq]at Ji
   exact Ji.symm
  subst en
  have Jj:It.ef (n+1) (n1++n2)=true:=ZD
  rw [gN,Bool.and_eq_true]at Jj
  simp only [List.length_append]at hn ⊢
  obtain⟨r1,r2⟩:=qj aZ (nest+1) id false (n+1) _ n1 g1 Jj.1 (by simp;omega) (by omega)
  obtain⟨q1,q2⟩:=qj e (nest+1) id true (n+1+n1.length) _ n2 g2 Jj.2 (by rw [g1];simp;omega) (by omega)
  refine⟨?_,c2⟩
  have gg : ∀ {l:List Sm} {m:Nat} {r:Bool×Nat},Sm.dm (nest+1) m l=r→(l = []∨nest+1≤12)→Sm.eC (nest+1) m l=r:=by
   intro l m r h1 h2
   unfold Sm.eC gate
   rw [if_neg]
   ·exact h1
   ·simp only [Bool.and_eq_true,decide_eq_true_eq,not_and]
    rcases h2 with h2 | h2
    ·subst h2;simp
    ·omega
  have t1:=gg r1 r2
  have t2:=gg q1 q2
  rw [xq]
  dsimp only
  rw [t1]
  dsimp only
  rw [t2]
  rw [wz,Bool.and_eq_true]at c3
  rw [if_neg]
  ·simp;omega
  ·simp only [Bool.or_eq_true,bne_iff_ne,ne_eq,decide_eq_true_eq,Bool.not_eq_true',not_or,Decidable.not_not,Bool.not_eq_false]
   exact⟨⟨⟨by omega,c1⟩,c3.1⟩,c3.2⟩
theorem qj : ∀ (l:List Sm) (nest bC:Int) (aQ:Bool) (n:Nat) (out new:List It),cq nest bC aQ out l=out++new→It.ef n new=true→out.length≤n→n+new.length≤200→
 Sm.dm nest n l=(true,n+new.length)∧(l = []∨nest≤12)
 | [],nest,bC,aQ,n,out,new,kN,hm,ho,hn=>by
  simp only [cq]at kN
  have:new = []:=by simpa using kN
  subst this
  exact⟨by simp [Sm.dm], .inl rfl⟩
 | s::l,nest,bC,aQ,n,out,new,kN,hm,ho,hn=>by
  simp only [cq]at kN
  rw [if_pos (by simp only [decide_eq_true_eq];omega)]at kN
  obtain⟨n1,g1⟩:=tD nest bC aQ s out
  obtain⟨n2,g2⟩:=l5 nest bC aQ l (fz nest bC aQ out s)
  have en:new=(⟨s,nest,bC,aQ⟩::n1)++n2:=by
   rw [g2,g1,List.append_assoc,List.append_cancel_left_eq]at kN
   exact kN.symm
  subst en
  rw [gN,Bool.and_eq_true]at hm
  rw [List.length_append]at hn ⊢
  obtain⟨r1,r2⟩:=GC s nest bC aQ n out _ g1 hm.1 ho (by omega)
  obtain⟨q1,q2⟩:=qj l nest bC aQ (n+(⟨s,nest,bC,aQ⟩::n1:List It).length) _ n2 g2 hm.2 (by rw [g1,List.length_append];omega) (by omega)
  refine⟨?_, .inr r2⟩
  simp only [Sm.dm,r1,Bool.not_true,Bool.false_eq_true, ↓reduceIte,q1]
  congr 1;omega
end
theorem tF : ∀ (l:List Pc) (out:List It),out.length≤200→(Pc.dm out.length l=true↔Pc.lJ l=true∧∃ new,allM out l=out++new∧(out++new).length≤200∧It.ef out.length new=true)
 | [],out,ho=>by simp [Pc.dm,Pc.lJ,allM,It.ef];exact ho
 | f::l,out,ho=>by
  have Jk : ∀ (l:List Pc) (out:List It),∃ new,allM out l=out++new:=by
   intro l
   induction l with
   | nil=>intro out;exact⟨[],by simp [allM]⟩
   | cons f l ih=>
    intro out
    simp only [allM]
    split
    ·exact⟨_,rfl⟩
    ·obtain⟨n1,h1⟩:=ih (out++f.flat)
     exact⟨f.flat++n1,by rw [h1,List.append_assoc]⟩
  simp only [Pc.dm,Pc.lJ]
  have Qr:(decide ((f.params.length:Int) > 8) || decide ((f.vars.length:Int) > 16) || !(isName f.name) || !(df f.vars) || !(df f.fin))=(!(isName f.name) || decide ((f.params.length:Int) > 8) || decide ((f.vars.length:Int) > 16) || !(df f.vars) || !(df f.fin)):=by
   cases isName f.name <;> simp
  rw [Qr]
  split
  ·simp
  split
  ·simp
  have hg:Sm.eC 1 out.length f.body=Sm.dm 1 out.length f.body:=by unfold Sm.eC gate;rw [if_neg (by simp)]
  rw [hg]
  constructor
  ·intro h
   split at h
   ·cases h
   rename_i hc
   obtain⟨n1,k1,k2,k3,k4⟩:=qi f.body 1 0 false out.length [] (.inr (by omega)) (by simp) ho (by simpa using hc)
   have kN:f.flat=n1:=by unfold Pc.flat;rw [k1];rfl
   rw [← k3, ← List.length_append]at h
   obtain⟨hh,n2,j1,j2,j3⟩:=(tF l (out++n1) (by rw [List.length_append];omega)).1 h
   refine⟨hh,n1++n2, ?_,by simpa using j2, ?_⟩
   ·simp only [allM,kN]
    rw [if_neg (by simp only [List.length_append,decide_eq_true_eq];omega),j1,List.append_assoc]
   ·rw [gN,k2, ← List.length_append,j3];rfl
  ·rintro⟨hh,new,j1,j2,j3⟩
   simp only [allM]at j1
   split at j1
   ·rename_i hc
    have:new=f.flat:=(List.append_cancel_left j1).symm
    subst this
    simp only [decide_eq_true_eq]at hc
    omega
   rename_i hc
   simp only [decide_eq_true_eq]at hc
   obtain⟨n2,g2⟩:=Jk l (out++f.flat)
   have en:new=f.flat++n2:=by
    rw [g2,List.append_assoc]at j1
    exact(List.append_cancel_left j1).symm
   subst en
   rw [gN,Bool.and_eq_true]at j3
   rw [List.length_append,List.length_append]at j2
   obtain⟨r1,_⟩:=qj f.body 1 0 false out.length [] f.flat (by unfold Pc.flat;rfl) j3.1 (by simp) (by omega)
   rw [r1]
   simp only [Bool.not_true,Bool.false_eq_true, ↓reduceIte]
   rw [← List.length_append]
   exact(tF l (out++f.flat) (by rw [List.length_append];omega)).2 ⟨hh,n2,g2,by simp;omega,by rw [List.length_append];exact j3.2⟩
theorem B9 (p:Pg):p.xu=p.may:=by
 have h:=tF p.procs [] (by simp)
 unfold Pg.xu Pg.may
 split
 ·rfl
 ·have e:Pc.dm 0 p.procs=(if !(Pc.lJ p.procs)then false else if decide ((p.all.length:Int) > 200)then false else It.ef 0 p.all):=by
   rw [Bool.eq_iff_iff]
   have h':Pc.dm 0 p.procs=true↔_:=h
   rw [h']
   have ha:p.all=allM [] p.procs:=rfl
   constructor
   ·rintro⟨h1,new,h2,h3,h4⟩
    rw [ha,h2,h1]
    simp only [List.nil_append]at h3 ⊢
    simp only [Bool.not_true,Bool.false_eq_true, ↓reduceIte]
    rw [if_neg (by simp only [decide_eq_true_eq];omega)]
    exact h4
   ·intro h1
    cases hh:Pc.lJ p.procs
    ·rw [hh]at h1;simp at h1
    ·rw [hh]at h1
     simp only [Bool.not_true,Bool.false_eq_true, ↓reduceIte]at h1
     split at h1
     ·cases h1
     ·rename_i hc
      simp only [decide_eq_true_eq]at hc
      exact⟨rfl,p.all,by rw [ha];rfl,by simp;omega,h1⟩
  exact e
end Go.Abs

/-! Tree1 -/

namespace Go.Abs
open Go.Proofs
end Go.Abs

/-! Tree2 -/

namespace Go.Abs
open Go.Proofs
end Go.Abs

/-! Sc1 -/

namespace Go.Abs
set_option maxRecDepth 8000
open Go.Proofs
def S8 (x:aD):List aD→Bool
 | []=>false
 | s::l=>if x==s then true else S8 x l
def uO (pre:List aD):List aD→Bool
 | []=>false
 | s::l=>if eg pre s then true else uO (pre++ [s]) l
def eR (l:List aD):Bool:=uO [] l
theorem GD {l:List aD} {k:Nat} {a:aD} (h:l[k]? = some a):l.take (k+1)=l.take k++ [a]:=by rw [List.take_add_one,h];rfl
theorem vl {l:List aD} (hl:l.length<4611686018427387904) (g:Tag) (s:St):aI Try.prog kb [.slice g 1 (l.map encStr)] s (.bool (eR l)) s:=by
 refine aI.Gh (d':= .slice .shared 1 (l.map encStr)) ?_ (Wk.shared _ _ _)
 refine aI.pure ?_ (by simp [D.bI,D.ok,Tag.ok,fi]) rfl s
 generalize h:eR l=p
 simp only [eR]at h
 unfold S0
 refine aI.go wa rfl fun B Q hB hQ=> ?_
 have⟨hD,hJ,hP,hY⟩:=cf
 repeat' (first
 | simp only [go_sem,hD,hJ,hP,hY]
 | (with_reducible first | refine cD fun hc=> ?_ | refine cE fun hc=> ?_ | refine cG (fun hc=> ?_) fun hc=> ?_) <;> (try simp only [hc,bs, ↓reduceIte]at h) <;> try simp only [hc]
 | (with_reducible refine aJ hQ ?_;(try cases h);simp only [az,aB,dv,dw,go_sem,hD,hJ,hP,hY];repeat' (first | exact Ok.out | with_reducible refine aO ?_ ?_ | (simp;done))))
 refine dF 0 0 (bp.ind (ι:=List aD×Nat) (fun i=>l.drop i.2=i.1∧uO (l.take i.2) i.1=p) (fun i=>i.1.length)
  (fun i=> [(0, .slice .shared 1 (l.map encStr)),(5, .slice .shared 1 (l.map encStr)),(6, .int .i64 (l.length:Int)),(7, .int .i64 (i.2:Int))]) (fun i=>⟨[],[]⟩) ?_ (l,0) ⟨rfl,h⟩)
 rintro⟨rest,k⟩ ⟨h1,h⟩ IH
 dsimp only at h1 h
 cases rest with
 | nil=>
  have hD:=drop_nil h1
  simp only [uO]at h
  repeat' (first
 | simp only [go_sem,hD,hJ,hP,hY]
 | (with_reducible first | refine cD fun hc=> ?_ | refine cE fun hc=> ?_ | refine cG (fun hc=> ?_) fun hc=> ?_) <;> (try simp only [hc,bs, ↓reduceIte]at h) <;> try simp only [hc]
 | (with_reducible refine aJ hQ ?_;(try cases h);simp only [az,aB,dv,dw,go_sem,hD,hJ,hP,hY];repeat' (first | exact Ok.out | with_reducible refine aO ?_ ?_ | (simp;done))))
 | cons a rest=>
  obtain⟨hJ,g2,hD,g4⟩:=drop_cons h1
  have bB:k<4611686018427387904:=by omega
  simp only [uO]at h
  have hc:=gm (l:=l.take k) (by rw [List.length_take];omega) a
  have e1:List.drop 0 (List.take k (l.map encStr))=(l.take k).map encStr:=by simp [List.map_take]
  have c1:((0:Int)≤(k:Int))=True:=by simp
  have c2:((k:Int)≤(l.length:Int))=True:=by simp only [eq_iff_iff,iff_true];omega
  have e2:List.take k (l.map encStr)=(l.take k).map encStr:=by simp [List.map_take]
  repeat' (first
 | simp only [go_sem,hD,hJ,hP,hY,e1,e2,c1,c2,or_true,true_and,and_self,ite_self,Int.toNat_natCast,List.drop_zero]
 | (with_reducible refine CU (hc _ _) ?_)
 | (with_reducible first | refine cD fun hc=> ?_ | refine cE fun hc=> ?_ | refine cG (fun hc=> ?_) fun hc=> ?_) <;> (try simp only [hc,bs, ↓reduceIte]at h) <;> try simp only [hc]
 | (with_reducible refine aJ hQ ?_;(try cases h);simp only [az,aB,dv,dw,go_sem,hD,hJ,hP,hY,e1,e2,c1,c2,or_true,true_and,and_self,ite_self,Int.toNat_natCast,List.drop_zero];repeat' (first | exact Ok.out | with_reducible refine aO ?_ ?_ | (simp;done))))
  refine dA 0 0 ?_ ?_ (IH (rest,k+1) ⟨g2,by dsimp only;rw [GD (by assumption)];exact h⟩ (Nat.lt_succ_self _))
  ·(simp only [go_sem,hD,hJ,hP,hY,aH bB];try exact bw)
  ·(simp only [go_sem,hD,hJ,hP,hY,aH bB];try exact bw)
end Go.Abs

/-! Sc2 -/

namespace Go.Abs
set_option maxRecDepth 8000
open Go.Proofs
def wB (vars globals:List aD) (name:aD):List Pm→Int
 | []=>if eg vars name then 4 else if eg globals name then 1 else 0
 | a::l=>if a.name==name then(if a.ref then 3 else 2)else wB vars globals name l
def Pc.jo (p:Pg) (f:Pc) (name:aD):Int:=wB f.vars p.globals name f.params
theorem AH {p:Pg} {f:Pc} (hp:f.params.length<1000000000) (hv:f.vars.length<1000000000) (hg:p.globals.length<1000000000) (name:aD) (s:St):aI Try.prog ph [.agg (bS p), .agg (bL f), .str name] s (.int .i64 (f.jo p name)) s:=by
 refine aI.pure ?_ (by simp [D.bI,D.ok,km,tn]) rfl s
 have mV:=gm (l:=f.vars) (by omega) name
 have qZ:=gm (l:=p.globals) (by omega) name
 generalize h:f.jo p name=q
 simp only [Pc.jo]at h
 unfold S0
 refine aI.go xg rfl fun B Q hB hQ=> ?_
 have⟨hD,hJ,hP,hY⟩:=cf
 repeat' (first
 | simp only [go_sem,hD,hJ,hP,hY]
 | (with_reducible refine aJ hQ ?_;simp only [az,aB,Option.some.injEq,exists_eq_left',go_sem,hD,hJ,hP,hY];repeat' (first | exact Ok.out | with_reducible refine aO ?_ ?_ | (simp;done))))
 refine dF 2 0 (bp.ind (ι:=List Pm×Nat) (fun i=>f.params.drop i.2=i.1∧wB f.vars p.globals name i.1=q) (fun i=>i.1.length)
  (fun i=> [(2, .str name),(3, .ptr 0 0),(4, .ptr 1 0),(10, .slice .shared 2 (f.params.map fm)),(11, .int .i64 (f.params.length:Int)),(12, .int .i64 (i.2:Int))]) (fun i=>⟨[bS p,bL f],[]⟩) ?_ (f.params,0) ⟨rfl,h⟩)
 rintro⟨rest,k⟩ ⟨h1,h⟩ IH
 dsimp only at h1 h
 cases rest with
 | nil=>
  have hD:=drop_nil h1
  simp only [wB]at h
  rcases Bool.eq_false_or_eq_true (eg f.vars name)with b1 | b1
  ·simp only [b1,if_true]at h
   subst h
   repeat' (first
 | simp only [go_sem,hD,hJ,hP,hY,b1]
 | (with_reducible refine CU (mV _ _) ?_)
 | (with_reducible refine CU (qZ _ _) ?_)
 | (with_reducible refine aJ hQ ?_;simp only [az,aB,Option.some.injEq,exists_eq_left',go_sem,hD,hJ,hP,hY];repeat' (first | exact Ok.out | with_reducible refine aO ?_ ?_ | (simp;done))))
  ·simp only [b1,Bool.false_eq_true,if_false]at h
   rcases Bool.eq_false_or_eq_true (eg p.globals name)with b2 | b2
   ·simp only [b2,if_true]at h
    subst h
    repeat' (first
 | simp only [go_sem,hD,hJ,hP,hY,b1,b2]
 | (with_reducible refine CU (mV _ _) ?_)
 | (with_reducible refine CU (qZ _ _) ?_)
 | (with_reducible refine aJ hQ ?_;simp only [az,aB,Option.some.injEq,exists_eq_left',go_sem,hD,hJ,hP,hY];repeat' (first | exact Ok.out | with_reducible refine aO ?_ ?_ | (simp;done))))
   ·simp only [b2,Bool.false_eq_true,if_false]at h
    subst h
    repeat' (first
 | simp only [go_sem,hD,hJ,hP,hY,b1,b2]
 | (with_reducible refine CU (mV _ _) ?_)
 | (with_reducible refine CU (qZ _ _) ?_)
 | (with_reducible refine aJ hQ ?_;simp only [az,aB,Option.some.injEq,exists_eq_left',go_sem,hD,hJ,hP,hY];repeat' (first | exact Ok.out | with_reducible refine aO ?_ ?_ | (simp;done))))
 | cons a rest=>
  obtain⟨hJ,g2,hD,g4⟩:=drop_cons h1
  have bB:k<4611686018427387904:=by omega
  simp only [wB]at h
  rcases Bool.eq_false_or_eq_true (a.name==name)with b1 | b1
  ·simp only [b1,if_true]at h
   rcases Bool.eq_false_or_eq_true a.ref with b2 | b2
   ·simp only [b2,if_true]at h
    subst h
    repeat' (first
 | simp only [go_sem,hD,hJ,hP,hY,b1,b2]
 | (with_reducible refine aJ hQ ?_;simp only [az,aB,Option.some.injEq,exists_eq_left',go_sem,hD,hJ,hP,hY];repeat' (first | exact Ok.out | with_reducible refine aO ?_ ?_ | (simp;done))))
   ·simp only [b2,Bool.false_eq_true,if_false]at h
    subst h
    repeat' (first
 | simp only [go_sem,hD,hJ,hP,hY,b1,b2]
 | (with_reducible refine aJ hQ ?_;simp only [az,aB,Option.some.injEq,exists_eq_left',go_sem,hD,hJ,hP,hY];repeat' (first | exact Ok.out | with_reducible refine aO ?_ ?_ | (simp;done))))
  ·simp only [b1,Bool.false_eq_true,if_false]at h
   repeat' (first
 | simp only [go_sem,hD,hJ,hP,hY,b1]
 | (with_reducible refine aJ hQ ?_;simp only [az,aB,Option.some.injEq,exists_eq_left',go_sem,hD,hJ,hP,hY];repeat' (first | exact Ok.out | with_reducible refine aO ?_ ?_ | (simp;done))))
   refine dA 2 0 ?_ ?_ (IH (rest,k+1) ⟨g2,h⟩ (Nat.lt_succ_self _))
   ·(simp only [go_sem,hD,hJ,hP,hY,aH bB];try exact bw)
   ·(simp only [go_sem,hD,hJ,hP,hY,aH bB];try exact bw)
def gO (name:aD):List Pc→Option Pc
 | []=>none
 | f::l=>if f.name==name then some f else gO name l
def Pg.find (p:Pg) (name:aD):Option Pc:=gO name p.procs
def ZF:Pc:=⟨[],[],[],[],[]⟩
def TA (r:Option Pc):D:= .tuple [.agg (bL (r.getD ZF)), .bool r.isSome]
theorem Oc (f:Pc):bL f = [.str f.name, .slice .shared 2 (f.params.map fm), .slice .shared 1 (f.vars.map encStr), .slice .shared 13 (f.body.map bf), .slice .shared 1 (f.fin.map encStr)]:=nd rfl
end Go.Abs

/-! Sc3 -/

namespace Go.Abs
set_option maxRecDepth 8000
open Go.Proofs
def Pc.wC (f:Pc):List aD:=f.params.map (·.name)
def Pc.own (f:Pc):List aD:=f.wC++f.vars
theorem Qs {f:Pc} (hp:f.params.length<1000000) (hv:f.vars.length<1000000) (s:St):aI Try.prog qE [.agg (bL f)] s (.slice .shared 1 (f.own.map encStr)) s:=by
 refine aI.pure ?_ (by simp [D.bI,D.ok,tn]) (by simp only [D.ok,Tag.ok,fi];rfl) s
 generalize hR:f.own=R
 simp only [Pc.own]at hR
 unfold S0
 refine aI.go yH rfl fun B Q hB hQ=> ?_
 have⟨hD,hJ,hP,hY⟩:=cf
 repeat' (first
 | simp only [go_sem,hD,hJ,hP,hY]
 | (with_reducible refine aJ hQ ?_;simp only [az,aB,Option.some.injEq,exists_eq_left',go_sem,hD,hJ,hP,hY];repeat' (first | exact Ok.out | with_reducible refine aO ?_ ?_ | (simp;done))))
 refine bp.qB 3 1 rfl ?_
 simp only [go_sem,hD,hJ,hP,hY]
 refine dF 1 1 (bp.ind (ι:=List Pm×Nat×List aD×Nat) (fun i=>f.params.drop i.2.1=i.1∧i.2.2.1++i.1.map (·.name)=f.wC∧i.2.2.2=i.2.2.1.length) (fun i=>i.1.length)
  (fun i=> [(1, .ptr 0 0),(3, .slice (.tok 0) 1 (i.2.2.1.map encStr)),(7, .slice .shared 2 (f.params.map fm)),(8, .int .i64 (f.params.length:Int)),(9, .int .i64 (i.2.1:Int))]) (fun i=>⟨[bL f],[some i.2.2.2]⟩) ?_ (f.params,0,[],0) ⟨rfl,rfl,rfl⟩)
 rintro⟨rest,k,out,n⟩ ⟨h1,h2,h3⟩ IH
 dsimp only at h1 h2 h3
 subst h3
 have ZG:out.length+rest.length<1000000:=by
  have:=congrArg List.length h2
  simp only [List.length_append,List.length_map,Pc.wC]at this
  omega
 cases rest with
 | nil=>
  have hD:=drop_nil h1
  simp only [List.map_nil,List.append_nil]at h2
  subst hR
  rw [← h2]at hQ
  have ez:=gC (l:=out) (nx:=f.vars) rfl (by omega) (g:= .shared)
  repeat' (first
 | simp only [go_sem,hD,hJ,hP,hY,ez]
 | (with_reducible refine aJ hQ ?_;simp only [az,aB,Option.some.injEq,exists_eq_left',go_sem,hD,hJ,hP,hY];repeat' (first | exact Ok.out | with_reducible refine aO ?_ ?_ | (simp;done))))
 | cons a rest=>
  obtain⟨hJ,g2,hD,g4⟩:=drop_cons h1
  have bB:k<4611686018427387904:=by omega
  have hP:(out.length+1)*17≤bH:=by unfold bH;omega
  repeat' (first
 | simp only [go_sem,hD,hJ,hP,hY]
 | (with_reducible refine aJ hQ ?_;simp only [az,aB,Option.some.injEq,exists_eq_left',go_sem,hD,hJ,hP,hY];repeat' (first | exact Ok.out | with_reducible refine aO ?_ ?_ | (simp;done))))
  refine dA 1 1 ?_ ?_ (IH (rest,k+1,out++ [a.name],out.length+1) ⟨g2,by rw [← h2];simp,by simp⟩ (Nat.lt_succ_self _))
  ·(simp only [go_sem,hD,hJ,hP,hY,aH bB,List.map_append,List.map_cons,List.map_nil,encStr];try exact bw)
  ·(simp only [go_sem,hD,hJ,hP,hY,aH bB,List.map_append,List.map_cons,List.map_nil,encStr];try exact bw)
def mJ:aD:= [109,97,105,110]
def Sm.known (p:Pg) (f:Pc) (procs:List aD) (v:Sm):Bool:=
 !(v.said.any fun n=>f.jo p n==0) && (v.kind != 4 || (v.proc != mJ && eg procs v.proc))
structure Pc.Small (p:Pg) (f:Pc):Prop where
 par:f.params.length<1000000
 vars:f.vars.length<1000000
 Ax:p.globals.length<1000000
def uh (p:Pg) (f:Pc):List aD→Bool
 | []=>true
 | n::l=>if f.jo p n==0 then false else uh p f l
theorem yc (p:Pg) (f:Pc) : ∀ l,uh p f l = !(l.any fun n=>f.jo p n==0)
 | []=>rfl
 | n::l=>by
  simp only [uh,List.any_cons,yc p f l]
  cases (f.jo p n==0) <;> simp
theorem AJ (v:Sm) (h:v.kc):v.said.length<3000000:=by
 have : ∀ (l:List Ar) (out:List aD),(Ar.said out l).length≤out.length+2*Ar.aT l:=by
  intro l
  induction l with
  | nil=>intro out;simp [Ar.said]
  | cons a l ih=>
   intro out
   simp only [Ar.said,Ar.aT]
   refine Nat.le_trans (ih _) ?_
   have:=gU a.x
   have:1≤a.x.size:=by obtain⟨_,_,_,_⟩:=a.x;simp [Ex.size]
   simp only [List.length_append]
   split <;> simp <;> omega
 have h1:=this v.args (v.oV++v.x.names)
 have h2:=gU v.x
 have h3:=h.2.2
 have h4:v.oV.length≤1:=by unfold Sm.oV;split <;> simp
 simp only [List.length_append]at h1
 unfold Sm.said
 omega
theorem LN {p:Pg} {f:Pc} {procs:List aD} {v:Sm} (hs:f.Small p) (yd:procs.length<1000000) (hv:v.kc) (s:St):aI Try.prog lI [.agg (bS p), .agg (bL f), .slice .shared 1 (procs.map encStr), .agg (bf v)] s (.bool (v.known p f procs)) s:=by
 refine aI.pure ?_ (by simp [D.bI,D.ok,km,tn,mn,Tag.ok,fi]) rfl s
 have hn:=fun s=>tC hv s
 have hk:=fun n s=>AH (p:=p) (f:=f) (by have:=hs.par;omega) (by have:=hs.vars;omega) (by have:=hs.Ax;omega) n s
 have Od:=gm (l:=procs) (by omega) v.proc
 have hl:=AJ v hv
 generalize h:v.known p f procs=q
 simp only [Sm.known, ← yc]at h
 unfold S0
 refine aI.go wb rfl fun B Q hB hQ=> ?_
 have⟨hD,hJ,hP,hY⟩:=cf
 repeat' (first
 | simp only [go_sem,hD,hJ,hP,hY]
 | (with_reducible refine CU (hn _) ?_)
 | (with_reducible refine aJ hQ ?_;simp only [az,aB,Option.some.injEq,exists_eq_left',go_sem,hD,hJ,hP,hY];repeat' (first | exact Ok.out | with_reducible refine aO ?_ ?_ | (simp;done))))
 refine dF 3 0 (bp.ind (ι:=List aD×Nat) (fun i=>v.said.drop i.2=i.1∧(uh p f i.1 && (v.kind != 4 || (v.proc != mJ && eg procs v.proc)))=q) (fun i=>i.1.length)
  (fun i=> [(2, .slice .shared 1 (procs.map encStr)),(4, .ptr 0 0),(5, .ptr 1 0),(7, .ptr 2 0),(12, .slice .shared 1 (v.said.map encStr)),(13, .int .i64 (v.said.length:Int)),(14, .int .i64 (i.2:Int))]) (fun i=>⟨[bS p,bL f,bf v],[]⟩) ?_ (v.said,0) ⟨rfl,h⟩)
 rintro⟨rest,k⟩ ⟨h1,h⟩ IH
 dsimp only at h1 h
 cases rest with
 | nil=>
  have hD:=drop_nil h1
  simp only [uh,Bool.true_and]at h
  rcases Bool.eq_false_or_eq_true (v.kind != 4)with b1 | b1
  ·simp only [b1,Bool.true_or]at h
   subst h
   repeat' (first
 | simp only [go_sem,hD,hJ,hP,hY,b1]
 | (with_reducible refine aJ hQ ?_;simp only [az,aB,Option.some.injEq,exists_eq_left',go_sem,hD,hJ,hP,hY];repeat' (first | exact Ok.out | with_reducible refine aO ?_ ?_ | (simp;done))))
  ·simp only [b1,Bool.false_or]at h
   rcases Bool.eq_false_or_eq_true (v.proc != mJ)with b2 | b2
   ·simp only [b2,Bool.true_and]at h
    unfold mJ at b2
    have b3:(v.proc == [109,97,105,110]) = !(v.proc != [109,97,105,110]):=by simp only [bne,Bool.not_not]
    rw [b2]at b3
    simp only [Bool.not_true,Bool.not_false]at b3
    subst h
    repeat' (first
 | simp only [go_sem,hD,hJ,hP,hY,b1,b2,b3]
 | (with_reducible refine CU (Od _ _) ?_)
 | (with_reducible refine aJ hQ ?_;simp only [az,aB,Option.some.injEq,exists_eq_left',go_sem,hD,hJ,hP,hY];repeat' (first | exact Ok.out | with_reducible refine aO ?_ ?_ | (simp;done))))
   ·simp only [b2,Bool.false_and]at h
    unfold mJ at b2
    have b3:(v.proc == [109,97,105,110]) = !(v.proc != [109,97,105,110]):=by simp only [bne,Bool.not_not]
    rw [b2]at b3
    simp only [Bool.not_true,Bool.not_false]at b3
    subst h
    repeat' (first
 | simp only [go_sem,hD,hJ,hP,hY,b1,b2,b3]
 | (with_reducible refine CU (Od _ _) ?_)
 | (with_reducible refine aJ hQ ?_;simp only [az,aB,Option.some.injEq,exists_eq_left',go_sem,hD,hJ,hP,hY];repeat' (first | exact Ok.out | with_reducible refine aO ?_ ?_ | (simp;done))))
 | cons a rest=>
  obtain⟨hJ,g2,hD,g4⟩:=drop_cons h1
  have bB:k<4611686018427387904:=by omega
  simp only [uh]at h
  rcases Bool.eq_false_or_eq_true (f.jo p a==0)with b1 | b1
  ·simp only [b1,if_true,Bool.false_and]at h
   subst h
   repeat' (first
 | simp only [go_sem,hD,hJ,hP,hY,b1]
 | (with_reducible refine CU (hk _ _) ?_)
 | (with_reducible refine aJ hQ ?_;simp only [az,aB,Option.some.injEq,exists_eq_left',go_sem,hD,hJ,hP,hY];repeat' (first | exact Ok.out | with_reducible refine aO ?_ ?_ | (simp;done))))
  ·simp only [b1,Bool.false_eq_true,if_false]at h
   repeat' (first
 | simp only [go_sem,hD,hJ,hP,hY,b1]
 | (with_reducible refine CU (hk _ _) ?_)
 | (with_reducible refine aJ hQ ?_;simp only [az,aB,Option.some.injEq,exists_eq_left',go_sem,hD,hJ,hP,hY];repeat' (first | exact Ok.out | with_reducible refine aO ?_ ?_ | (simp;done))))
   refine dA 3 0 ?_ ?_ (IH (rest,k+1) ⟨g2,h⟩ (Nat.lt_succ_self _))
   ·(simp only [go_sem,hD,hJ,hP,hY,aH bB];try exact bw)
   ·(simp only [go_sem,hD,hJ,hP,hY,aH bB];try exact bw)
end Go.Abs

/-! ScP -/

namespace Go.Abs
theorem Ca : ∀ (l pre:List aD),uO pre l=true↔(∃ x∈l,x∈pre)∨¬ l.Nodup
 | [],pre=>by simp [uO]
 | s::l,pre=>by
  simp only [uO]
  by_cases h:eg pre s=true
  ·simp only [h,if_true,true_iff]
   exact .inl ⟨s,List.mem_cons_self,(kW _ _).1 h⟩
  ·have h':s∉pre:=fun m=>h ((kW _ _).2 m)
   simp only [h,if_false,Bool.false_eq_true]
   rw [Ca l (pre++ [s])]
   simp only [List.mem_append,List.mem_singleton,List.mem_cons,List.nodup_cons,exists_eq_or_imp]
   constructor
   ·rintro(⟨x,m,h1 | h1⟩ | h1)
    ·exact .inl (.inr ⟨x,m,h1⟩)
    ·have h1:x=s:=by simpa using h1
     subst h1;exact .inr fun h=>h.1 m
    ·exact .inr fun h=>h1 h.2
   ·rintro((h1 | ⟨x,m,h1⟩) | h1)
    ·exact absurd h1 h'
    ·exact .inl ⟨x,m, .inl h1⟩
    ·by_cases m:s∈l
     ·exact .inl ⟨s,m, .inr (.inl rfl)⟩
     ·exact .inr fun h=>h1 ⟨m,h⟩
theorem ye (l:List aD):eR l=true↔¬ l.Nodup:=by
 unfold eR;rw [Ca];simp
theorem GF (a b:List aD):eR (a++b)=(eR a || (eR b || b.any (eg a))):=by
 have h:eR (a++b)=true↔(eR a || (eR b || b.any (eg a)))=true:=by
  rw [ye,List.nodup_append]
  simp only [Bool.or_eq_true,ye,List.any_eq_true,kW]
  constructor
  ·intro h
   by_cases ha:a.Nodup
   ·by_cases hb:b.Nodup
    ·refine .inr (.inr (Classical.byContradiction fun hn=>h ⟨ha,hb,fun x hx y hy e=>hn ⟨y,hy,e ▸ hx⟩⟩))
    ·exact .inr (.inl hb)
   ·exact .inl ha
  ·rintro(h | h | ⟨x,h1,h2⟩) ⟨h3,h4,h5⟩
   ·exact h h3
   ·exact h h4
   ·exact h5 x h2 x h1 rfl
 cases h1:eR (a++b) <;> cases h2:(eR a || (eR b || b.any (eg a))) <;> simp_all
theorem AL (name:aD) : ∀ (l:List Pc) (k:Nat),(gO name l=none∧kq name (k:Int) (l.map (·.name)) = -1)∨∃ f j,gO name l=some f∧l[j]? = some f∧kq name (k:Int) (l.map (·.name))=((k+j:Nat):Int)
 | [],k=> .inl ⟨rfl,rfl⟩
 | f::l,k=>by
  by_cases h:f.name=name
  ·subst h
   refine .inr ⟨f,0,by simp [gO],rfl,by simp [kq]⟩
  ·have h1:(f.name==name)=false:=by simp [h]
   have h2:(name==f.name)=false:=by simp [Ne.symm h]
   simp only [gO,h1,Bool.false_eq_true,if_false,List.map_cons,kq,h2]
   rcases AL name l (k+1)with ⟨g1,g2⟩ | ⟨g,j,g1,g2,g3⟩
   ·exact .inl ⟨g1,by rw [← g2];rfl⟩
   ·refine .inr ⟨g,j+1,g1,by simpa using g2, ?_⟩
    rw [show((k:Int)+1)=((k+1:Nat):Int)from rfl,g3]
    congr 1;omega
theorem nu {name:aD} {f:Pc} : ∀ {l:List Pc},gO name l=some f→f∈l∧f.name=name
 | g::l,h=>by
  simp only [gO]at h
  split at h
  ·rename_i e;cases h;exact⟨List.mem_cons_self,by simpa using e⟩
  ·have:=nu h;exact⟨List.mem_cons_of_mem _ this.1,this.2⟩
mutual
theorem GG (deep bC:Int) (aQ:Bool) (out:List It) : ∀ s:Sm,∃ e,fz deep bC aQ out s=out++e
 | ⟨id,kind,labels,name,proc,x,has,args,aZ,e⟩=>by
  simp only [fz]
  split
  ·obtain⟨e1,h1⟩:=n5 (deep+1) id false (out++ [⟨⟨id,kind,labels,name,proc,x,has,args,aZ,e⟩,deep,bC,aQ⟩]) aZ
   obtain⟨e2,h2⟩:=n5 (deep+1) id true (cq (deep+1) id false (out++ [⟨⟨id,kind,labels,name,proc,x,has,args,aZ,e⟩,deep,bC,aQ⟩]) aZ) e
   rw [h2,h1]
   exact⟨_,by rw [List.append_assoc,List.append_assoc]⟩
  ·exact⟨_,rfl⟩
theorem n5 (deep bC:Int) (aQ:Bool) (out:List It) : ∀ l:List Sm,∃ e,cq deep bC aQ out l=out++e
 | []=>⟨[],by simp [cq]⟩
 | s::l=>by
  simp only [cq]
  split
  ·obtain⟨e1,h1⟩:=GG deep bC aQ out s
   obtain⟨e2,h2⟩:=n5 deep bC aQ (fz deep bC aQ out s) l
   rw [h2,h1]
   exact⟨_,by rw [List.append_assoc]⟩
  ·exact⟨[],by simp⟩
end
mutual
theorem GH (deep bC:Int) (aQ:Bool) (out:List It) : ∀ s:Sm,(fz deep bC aQ out s).length≤200→(∀ i∈fz deep bC aQ out s,i.deep≤12)→(fz deep bC aQ out s).map It.s=out.map It.s++s.pre
 | ⟨id,kind,labels,name,proc,x,has,args,aZ,e⟩,h1,h2=>by
  simp only [fz,Sm.pre]at h1 h2 ⊢
  by_cases hd:deep≤12
  ·simp only [hd,decide_true,if_true]at h1 h2 ⊢
   obtain⟨e2,g2⟩:=n5 (deep+1) id true (cq (deep+1) id false (out++ [⟨⟨id,kind,labels,name,proc,x,has,args,aZ,e⟩,deep,bC,aQ⟩]) aZ) e
   have k1:(cq (deep+1) id false (out++ [⟨⟨id,kind,labels,name,proc,x,has,args,aZ,e⟩,deep,bC,aQ⟩]) aZ).length≤200:=by
    rw [g2,List.length_append]at h1;omega
   have k2 : ∀ i∈cq (deep+1) id false (out++ [⟨⟨id,kind,labels,name,proc,x,has,args,aZ,e⟩,deep,bC,aQ⟩]) aZ,i.deep≤12:=fun i m=>h2 i (by rw [g2];exact List.mem_append_left _ m)
   rw [qk (deep+1) id true _ e h1 h2,qk (deep+1) id false _ aZ k1 k2]
   simp
  ·simp only [hd,decide_false,Bool.false_eq_true,if_false]at h1 h2
   exact absurd (h2 _ (List.mem_append_right _ (List.mem_singleton.2 rfl))) (by simpa using hd)
theorem qk (deep bC:Int) (aQ:Bool) (out:List It) : ∀ l:List Sm,(cq deep bC aQ out l).length≤200→(∀ i∈cq deep bC aQ out l,i.deep≤12)→(cq deep bC aQ out l).map It.s=out.map It.s++Sm.e9 l
 | [],h1,h2=>by simp [cq,Sm.e9]
 | s::l,h1,h2=>by
  simp only [cq,Sm.e9]at h1 h2 ⊢
  by_cases hc:(out.length:Int)≤200
  ·simp only [hc,decide_true,if_true]at h1 h2 ⊢
   obtain⟨e2,g2⟩:=n5 deep bC aQ (fz deep bC aQ out s) l
   have k1:(fz deep bC aQ out s).length≤200:=by rw [g2,List.length_append]at h1;omega
   have k2 : ∀ i∈fz deep bC aQ out s,i.deep≤12:=fun i m=>h2 i (by rw [g2];exact List.mem_append_left _ m)
   rw [qk deep bC aQ _ l h1 h2,GH deep bC aQ out s k1 k2]
   simp
  ·simp only [hc,decide_false,Bool.false_eq_true,if_false]at h1
   omega
end
theorem AN : ∀ (l:List Pc) (out:List It),(allM out l).length≤200→(∀ i∈allM out l,i.deep≤12)→(∀ f∈l,f.flat.map It.s=Sm.e9 f.body)∧(allM out l).map It.s=out.map It.s++(l.map fun f=>Sm.e9 f.body).flatten
 | [],out,h1,h2=>⟨fun f m=>(by cases m),by simp [allM]⟩
 | f::l,out,h1,h2=>by
  simp only [allM]at h1 h2 ⊢
  by_cases hc:(((out++f.flat).length:Nat):Int) > 200
  ·simp only [hc,decide_true,if_true]at h1;omega
  ·simp only [hc,decide_false,Bool.false_eq_true,if_false]at h1 h2 ⊢
   obtain⟨k1,k2⟩:=AN l (out++f.flat) h1 h2
   have Jk : ∀ (l:List Pc) (out:List It),∃ e,allM out l=out++e:=by
    intro l
    induction l with
    | nil=>intro out;exact⟨[],by simp [allM]⟩
    | cons g l ih=>
     intro out
     simp only [allM]
     split
     ·exact⟨_,rfl⟩
     ·obtain⟨e,h⟩:=ih (out++g.flat);exact⟨g.flat++e,by rw [h];simp⟩
   obtain⟨e,he⟩:=Jk l (out++f.flat)
   have k3:f.flat.map It.s=Sm.e9 f.body:=by
    have:=qk 1 0 false [] f.body (by
     have:f.flat.length≤200:=by simp only [List.length_append]at hc;omega
     exact this) (fun i m=>h2 i (by rw [he];exact List.mem_append_left _ (List.mem_append_right _ m)))
    simpa [Pc.flat]using this
   refine⟨fun g m=> ?_, ?_⟩
   ·rcases List.mem_cons.1 m with rfl | m
    ·exact k3
    ·exact k1 g m
   ·rw [k2];simp [k3]
theorem yf : ∀ (l:List It) (n:Nat),It.ef n l=true→(∀ i∈l,i.deep≤12)∧∀ (j:Nat) (i:It),l[j]? = some i→i.s.id=((n+j+1:Nat):Int)
 | [],n,h=>⟨fun i m=>(by cases m),fun j i h=>by simp at h⟩
 | a::l,n,h=>by
  simp only [It.ef]at h
  split at h
  ·cases h
  ·rename_i c
   simp only [Bool.or_eq_true,not_or,bne_iff_ne,ne_eq,Decidable.not_not,decide_eq_true_eq,Int.not_lt,gt_iff_lt]at c
   obtain⟨k1,k2⟩:=yf l (n+1) h
   refine⟨fun i m=> ?_,fun j i hj=> ?_⟩
   ·rcases List.mem_cons.1 m with rfl | m
    ·exact c.1.2
    ·exact k1 i m
   ·cases j with
    | zero=>simp at hj;subst hj;rw [c.1.1]
    | succ j=>simp at hj;rw [k2 j i hj];congr 1;omega
theorem Cb {p:Pg} (h:p.may=true):p.all.length≤200∧It.ef 0 p.all=true:=by
 unfold Pg.may at h
 split at h
 ·cases h
 ·split at h
  ·cases h
  ·split at h
   ·cases h
   ·rename_i c
    exact⟨by simp only [decide_eq_true_eq,Int.not_lt,gt_iff_lt]at c;omega,h⟩
theorem Jl {p:Pg} (h:p.may=true):(∀ f∈p.procs,f.flat.map It.s=Sm.e9 f.body)∧p.all.map It.s=p.pre:=by
 obtain⟨h1,h2⟩:=Cb h
 have:=AN p.procs [] h1 (yf _ 0 h2).1
 simpa [Pg.pre,Pg.all]using this
end Go.Abs

/-! Sc4 -/

namespace Go.Abs
set_option maxRecDepth 8000
open Go.Proofs
structure Pg.kY (p:Pg):Prop where
 Oe:p.zh
 sz:p.size≤900000
mutual
theorem Og : ∀ s:Sm,s.qe→s.size<1000000→∀ v∈s.pre,v.kc∧v.oD
 | ⟨id,kind,labels,name,proc,x,has,args,aZ,aQ⟩,h,hs,v,m=>by
  simp only [Sm.qe]at h
  simp only [Sm.size]at hs
  simp only [Sm.pre,List.mem_cons,List.mem_append]at m
  rcases m with rfl | m | m
  ·exact⟨⟨h.1.xt,fun a ha=>(h.1.arg a ha).2.1,by dsimp only;omega⟩,h.1⟩
  ·exact ui aZ h.2.1 (by omega) v m
  ·exact ui aQ h.2.2 (by omega) v m
theorem ui : ∀ l:List Sm,Sm.gx l→Sm.aT l<1000000→∀ v∈Sm.e9 l,v.kc∧v.oD
 | [],h,hs,v,m=>by simp [Sm.e9]at m
 | s::l,h,hs,v,m=>by
  simp only [Sm.gx]at h
  simp only [Sm.aT]at hs
  simp only [Sm.e9,List.mem_append]at m
  rcases m with m | m
  ·exact Og s h.1 (by omega) v m
  ·exact ui l h.2 (by omega) v m
end
theorem Pg.kY.said {p:Pg} (h:p.kY) {f:Pc} (hf:f∈p.procs) : ∀ v∈Sm.e9 f.body,v.kc:=fun v m=>by
 have h1:=Pc.b6 hf
 have h2:=h.sz
 simp only [Pg.size]at h2
 simp only [Pc.size]at h1
 exact(ui f.body (h.Oe.body f hf) (by omega) v m).1
theorem Pg.kY.small {p:Pg} (h:p.kY) {f:Pc} (hf:f∈p.procs):f.Small p:=by
 have h1:=Pc.b6 hf
 have h2:=h.sz
 simp only [Pg.size]at h2
 simp only [Pc.size]at h1
 exact⟨by omega,by omega,by omega⟩
theorem Pg.kY.procs {p:Pg} (h:p.kY):p.procs.length≤900000∧Pc.aT p.procs≤900000∧p.globals.length≤900000:=by
 have h2:=h.sz
 have h3:=Pc.cP p.procs
 simp only [Pg.size]at h2
 omega
def Pg.pn (p:Pg):List aD:=p.procs.map (·.name)
def tG (p:Pg) (f:Pc) (procs:List aD):List Sm→Option Sm
 | []=>none
 | v::l=>if v.known p f procs then tG p f procs l else some v
def pD (p:Pg) (procs:List aD):List Pc→Int×Int
 | []=>(0,0)
 | f::l=>if eR (p.globals++f.own)then(5,0)else match tG p f procs (Sm.e9 f.body)with | some v=>(5,v.id) | none=>pD p procs l
def Pg.rj (p:Pg):Bool:=match p.find mJ with | none=>true | some m=>decide ((m.params.length:Int) > 0)
def Pg.scope (p:Pg):Int×Int:=
 if p.may then if eR p.globals || (eR p.pn || p.rj)then(5,0)else pD p p.pn p.procs else(1,0)
theorem Jm (p:Pg) (hl:p.globals.length<1000000) (n:aD):aI Try.prog kC ([.str n]++ [.ptr 0 0]) ⟨[bS p],[]⟩ (.bool (eg p.globals n)) ⟨[bS p],[]⟩:=by
 show aI Try.prog kC [.str n, .ptr 0 0] _ _ _
 have nR:=gm (l:=p.globals) (by omega) n
 refine aI.go ur rfl fun B Q hB hQ=> ?_
 have⟨hD,hJ,hP,hY⟩:=cf
 repeat' (first
 | simp only [go_sem,hD,hJ,hP,hY]
 | (with_reducible refine CU (nR _ _) ?_)
 | (with_reducible refine aJ hQ ?_;simp only [az,aB,Option.some.injEq,exists_eq_left',go_sem,hD,hJ,hP,hY];repeat' (first | exact Ok.out | with_reducible refine aO ?_ ?_ | (simp;done))))
theorem Qt (n m:Nat) (p:Pg):D.fh n m (ix p)=ix p:=fu n m _ (xm p)
attribute [go_sem] Qt
theorem LO {p:Pg} {f:Pc} {procs:List aD} {v:Sm} (hs:f.Small p) (yd:procs.length<1000000) (hv:v.kc) (g:Tag) (s:St):aI Try.prog lI [.agg (bS p), .agg (bL f), .slice g 1 (procs.map encStr), .agg (bf v)] s (.bool (v.known p f procs)) s:=
 dr.zP (.cons (Wk.refl _) (.cons (Wk.refl _) (.cons (Wk.shared g 1 _) (jq.refl _)))) (LN hs yd hv s)
theorem vm {p:Pg} (h:p.kY) (s:St):aI Try.prog j8 [.agg (bS p)] s (.agg [.int .i64 p.scope.1, .int .i64 p.scope.2]) s:=by
 refine aI.pure ?_ (by simp [D.bI,D.ok,km]) rfl s
 have hm:=fun s=>N4 h.Oe s
 simp only [B9]at hm
 obtain⟨qW,qf,uL⟩:=h.procs
 have cU:=fun s=>ze (p:=p) (by omega) s
 have lf:=fun s=>vl (l:=p.globals) (by omega) .shared s
 have hpn:p.pn.length=p.procs.length:=by simp [Pg.pn]
 have vO:=fun g s=>vl (l:=p.pn) (by omega) g s
 have ZH:=fun g s=>(B5 (l:=p.pn) (by omega) mJ s).Gh (Wk.shared g 1 (p.pn.map encStr))
 have vn:=fun g s=>(show aI Try.prog fI [.slice g 1 (p.pn.map encStr), .str [109,97,105,110]] s (.int .i64 (kq mJ 0 p.pn)) s from ZH g s)
 generalize hR:p.scope=R
 simp only [Pg.scope]at hR
 unfold S0
 rcases Bool.eq_false_or_eq_true p.may with hb | hb
 case inr=>
  simp only [hb]at hm
  simp only [hb,Bool.false_eq_true,if_false]at hR
  subst hR
  refine aI.go p8 rfl fun B Q hB hQ=> ?_
  have⟨hD,hJ,hP,hY⟩:=cf
  repeat' (first
 | simp only [go_sem,hD,hJ,hP,hY]
 | (with_reducible refine CU (hm _) ?_)
 | (with_reducible refine aJ hQ ?_;simp only [az,aB,Option.some.injEq,exists_eq_left',go_sem,hD,hJ,hP,hY];repeat' (first | exact Ok.out | with_reducible refine aO ?_ ?_ | (simp;done))))
 simp only [hb]at hm
 simp only [hb,if_true]at hR
 refine aI.go p8 rfl fun B Q hB hQ=> ?_
 have⟨hD,hJ,hP,hY⟩:=cf
 repeat' (first
 | simp only [go_sem,hD,hJ,hP,hY]
 | (with_reducible refine CU (hm _) ?_)
 | (with_reducible refine aJ hQ ?_;simp only [az,aB,Option.some.injEq,exists_eq_left',go_sem,hD,hJ,hP,hY];repeat' (first | exact Ok.out | with_reducible refine aO ?_ ?_ | (simp;done))))
 refine bp.qB 3 1 rfl ?_
 simp only [go_sem,hD,hJ,hP,hY]
 refine dF 2 1 (bp.ind (ι:=List Pc×Nat×List aD×Nat) (fun i=>p.procs.drop i.2.1=i.1∧i.2.2.1++i.1.map (·.name)=p.pn∧i.2.2.2=i.2.2.1.length) (fun i=>i.1.length)
  (fun i=> [(1, .ptr 0 0),(2, .ptr 1 0),(3, .slice (.tok 0) 1 (i.2.2.1.map encStr)),(18, .slice .shared 5 (p.procs.map bL)),(19, .int .i64 (p.procs.length:Int)),(20, .int .i64 (i.2.1:Int))]) (fun i=>⟨[bS p,[.int .i64 0, .int .i64 0]],[some i.2.2.2]⟩) ?_ (p.procs,0,[],0) ⟨rfl,rfl,rfl⟩)
 rintro⟨rest,k,out,n⟩ ⟨h1,h2,h3⟩ IH
 dsimp only at h1 h2 h3
 subst h3
 have ZG:out.length+rest.length≤900000:=by
  have:=congrArg List.length h2
  simp only [List.length_append,List.length_map]at this
  omega
 cases rest with
 | cons a rest=>
  obtain⟨hJ,g2,hD,g4⟩:=drop_cons h1
  have bB:k<4611686018427387904:=by omega
  have hP:(out.length+1)*17≤bH:=by unfold bH;omega
  repeat' (first
 | simp only [go_sem,hD,hJ,hP,hY]
 | (with_reducible refine aJ hQ ?_;simp only [az,aB,Option.some.injEq,exists_eq_left',go_sem,hD,hJ,hP,hY];repeat' (first | exact Ok.out | with_reducible refine aO ?_ ?_ | (simp;done))))
  refine dA 2 1 ?_ ?_ (IH (rest,k+1,out++ [a.name],out.length+1) ⟨g2,by rw [← h2];simp,by simp⟩ (Nat.lt_succ_self _))
  ·(simp only [go_sem,hD,hJ,hP,hY,aH bB,List.map_append,List.map_cons,List.map_nil,encStr];try exact bw)
  ·(simp only [go_sem,hD,hJ,hP,hY,aH bB,List.map_append,List.map_cons,List.map_nil,encStr];try exact bw)
 | nil=>
  have hD:=drop_nil h1
  simp only [List.map_nil,List.append_nil]at h2
  subst h2
  rcases Bool.eq_false_or_eq_true (eR p.globals)with b1 | b1
  ·simp only [b1,Bool.true_or,if_true]at hR
   subst hR
   repeat' (first
 | simp only [go_sem,hD,hJ,hP,hY,b1]
 | (with_reducible refine CU (vn _ _) ?_)
 | (with_reducible refine CU (lf _) ?_)
 | (with_reducible refine CU (vO _ _) ?_)
 | (with_reducible refine aJ hQ ?_;simp only [az,aB,Option.some.injEq,exists_eq_left',go_sem,hD,hJ,hP,hY];repeat' (first | exact Ok.out | with_reducible refine aO ?_ ?_ | (simp;done))))
  rcases Bool.eq_false_or_eq_true (eR p.pn)with b2 | b2
  ·simp only [b1,b2,Bool.true_or,Bool.or_true,if_true]at hR
   subst hR
   repeat' (first
 | simp only [go_sem,hD,hJ,hP,hY,b1,b2]
 | (with_reducible refine CU (vn _ _) ?_)
 | (with_reducible refine CU (lf _) ?_)
 | (with_reducible refine CU (vO _ _) ?_)
 | (with_reducible refine aJ hQ ?_;simp only [az,aB,Option.some.injEq,exists_eq_left',go_sem,hD,hJ,hP,hY];repeat' (first | exact Ok.out | with_reducible refine aO ?_ ?_ | (simp;done))))
  rcases AL mJ p.procs 0 with ⟨e1,e2⟩ | ⟨m,j,e1,e2,e3⟩
  ·have b3:p.rj=true:=by unfold Pg.rj Pg.find;rw [e1]
   have hi:kq mJ 0 p.pn = -1:=e2
   simp only [b1,b2,b3,Bool.or_true,if_true]at hR
   subst hR
   simp only [hi]at vn
   have d1:decide ((-1:Int)<0)=true:=by decide
   repeat' (first
 | simp only [go_sem,hD,hJ,hP,hY,b1,b2,d1]
 | (with_reducible refine CU (vn _ _) ?_)
 | (with_reducible refine CU (lf _) ?_)
 | (with_reducible refine CU (vO _ _) ?_)
 | (with_reducible refine aJ hQ ?_;simp only [az,aB,Option.some.injEq,exists_eq_left',go_sem,hD,hJ,hP,hY];repeat' (first | exact Ok.out | with_reducible refine aO ?_ ?_ | (simp;done))))
  have hi:kq mJ 0 p.pn=((j:Nat):Int):=by rw [show p.pn=p.procs.map (·.name)from rfl];simpa using e3
  simp only [hi]at vn
  have d1:decide (((j:Nat):Int)<0)=false:=by simp
  have hj:j<p.procs.length:=(List.getElem?_eq_some_iff.1 e2).1
  have b3:p.rj=decide ((m.params.length:Int) > 0):=by unfold Pg.rj Pg.find;rw [e1]
  rw [b3]at hR
  rcases Bool.eq_false_or_eq_true (decide ((m.params.length:Int) > 0))with b4 | b4
  ·simp only [b1,b2,b4,Bool.or_true,if_true]at hR
   subst hR
   repeat' (first
 | simp only [go_sem,hD,hJ,hP,hY,b1,b2,d1,e2,b4]
 | (with_reducible refine CU (vn _ _) ?_)
 | (with_reducible refine CU (lf _) ?_)
 | (with_reducible refine CU (vO _ _) ?_)
 | (with_reducible refine aJ hQ ?_;simp only [az,aB,Option.some.injEq,exists_eq_left',go_sem,hD,hJ,hP,hY];repeat' (first | exact Ok.out | with_reducible refine aO ?_ ?_ | (simp;done))))
  simp only [b1,b2,b4,Bool.or_false,Bool.false_eq_true,if_false]at hR
  repeat' (first
 | simp only [go_sem,hD,hJ,hP,hY,b1,b2,d1,e2,b4]
 | (with_reducible refine CU (vn _ _) ?_)
 | (with_reducible refine CU (lf _) ?_)
 | (with_reducible refine CU (vO _ _) ?_)
 | (with_reducible refine CU (cU _) ?_)
 | (with_reducible refine aJ hQ ?_;simp only [az,aB,Option.some.injEq,exists_eq_left',go_sem,hD,hJ,hP,hY];repeat' (first | exact Ok.out | with_reducible refine aO ?_ ?_ | (simp;done))))
  refine dF 2 1 (bp.ind (ι:=List Pc×Nat) (fun i=>p.procs.drop i.2=i.1∧pD p p.pn i.1=R) (fun i=>i.1.length)
   (fun i=> [(1, .ptr 0 0),(2, .ptr 1 0),(3, .slice (.tok 0) 1 (p.pn.map encStr)),(7, .cL (ix p) 0),(57, .slice .shared 5 (p.procs.map bL)),(58, .int .i64 (p.procs.length:Int)),(59, .int .i64 (i.2:Int))]) (fun i=>⟨[bS p,[.int .i64 0, .int .i64 0]],[some p.pn.length]⟩) ?_ (p.procs,0) ⟨rfl,hR⟩)
  clear IH h1 hD hR
  rintro⟨rest,k⟩ ⟨h1,hR⟩ IH
  dsimp only at h1 hR
  cases rest with
  | nil=>
   have hD:=drop_nil h1
   simp only [pD]at hR
   subst hR
   repeat' (first
 | simp only [go_sem,hD,hJ,hP,hY]
 | (with_reducible refine aJ hQ ?_;simp only [az,aB,Option.some.injEq,exists_eq_left',go_sem,hD,hJ,hP,hY];repeat' (first | exact Ok.out | with_reducible refine aO ?_ ?_ | (simp;done))))
  | cons f rest=>
   obtain⟨hJ,g2,hD,g4⟩:=drop_cons h1
   have bB:k<4611686018427387904:=by omega
   have Ky:=List.mem_of_getElem? hJ
   have yg:=h.small Ky
   have GK:=fun s=>Qs (f:=f) yg.par yg.vars s
   have ly:f.own.length<4611686018427387904:=by have h1:=yg.par;have h2:=yg.vars;unfold Pc.own Pc.wC;simp;omega
   have Oh:=fun s=>vl (l:=f.own) ly .shared s
   have AP:=fun {s:St} {o:Nat} (ho:s.au[o]? = some (bS p))=>rh (l:=f.own) ly (f:=kC) (row:=bS p) (b:=eg p.globals) (km p) (by with_unfolding_all rfl) (fun x _=>Jm p yg.Ax x) ho
   have Jn:=fun {s:St} {o:Nat} (ho:s.au[o]? = some (bS p))=>(show aI Try.prog dY [.slice .shared 1 (f.own.map encStr), .eW 35 [.ptr o 0]] s (.bool (f.own.any (eg p.globals))) s from AP ho)
   simp only [pD,GF,b1,Bool.false_or]at hR
   rcases Bool.eq_false_or_eq_true (eR f.own)with c1 | c1
   ·simp only [c1,Bool.true_or,if_true]at hR
    subst hR
    repeat' (first
 | simp only [go_sem,hD,hJ,hP,hY,c1]
 | (with_reducible refine CU (GK _) ?_)
 | (with_reducible refine CU (Oh _) ?_)
 | (with_reducible refine CU (Jn (by with_unfolding_all rfl)) ?_)
 | (with_reducible refine aJ hQ ?_;simp only [az,aB,Option.some.injEq,exists_eq_left',go_sem,hD,hJ,hP,hY];repeat' (first | exact Ok.out | with_reducible refine aO ?_ ?_ | (simp;done))))
   rcases Bool.eq_false_or_eq_true (f.own.any (eg p.globals))with c2 | c2
   ·simp only [c1,c2,Bool.false_or,if_true]at hR
    subst hR
    repeat' (first
 | simp only [go_sem,hD,hJ,hP,hY,c1,c2]
 | (with_reducible refine CU (GK _) ?_)
 | (with_reducible refine CU (Oh _) ?_)
 | (with_reducible refine CU (Jn (by with_unfolding_all rfl)) ?_)
 | (with_reducible refine aJ hQ ?_;simp only [az,aB,Option.some.injEq,exists_eq_left',go_sem,hD,hJ,hP,hY];repeat' (first | exact Ok.out | with_reducible refine aO ?_ ?_ | (simp;done))))
   simp only [c1,c2,Bool.or_self,Bool.false_eq_true,if_false]at hR
   obtain⟨it,ri,GM⟩:=IZ hJ (by omega)
   rw [← ri]at hR
   have Oi:it.length≤900000:=by
    have e:=congrArg List.length ri
    have e2:=(lY p).2 k f hJ
    obtain⟨a,b,e',_,_,e3,e4⟩:=e2
    have e5:=lZ p
    have e6:=congrArg List.length e3
    rw [e4]at e5
    simp only [List.length_map,List.length_append]at e e5 e6
    omega
   repeat' (first
 | simp only [go_sem,hD,hJ,hP,hY,c1,c2]
 | (with_reducible refine CU (GK _) ?_)
 | (with_reducible refine CU (Oh _) ?_)
 | (with_reducible refine CU (Jn (by with_unfolding_all rfl)) ?_)
 | (with_reducible refine CU (GM _) ?_)
 | (with_reducible refine aJ hQ ?_;simp only [az,aB,Option.some.injEq,exists_eq_left',go_sem,hD,hJ,hP,hY];repeat' (first | exact Ok.out | with_reducible refine aO ?_ ?_ | (simp;done))))
   obtain⟨q,hq⟩ : ∃ q,tG p f p.pn (it.map Im.s)=q:=⟨_,rfl⟩
   rw [hq]at hR
   refine dF 3 1 (bp.ind (ι:=List Im×Nat) (fun i=>it.drop i.2=i.1∧tG p f p.pn (i.1.map Im.s)=q) (fun i=>i.1.length)
    (fun i=> [(1, .ptr 0 0),(2, .ptr 1 0),(3, .slice (.tok 0) 1 (p.pn.map encStr)),(7, .cL (ix p) 0),(9, .ptr 2 0),(57, .slice .shared 5 (p.procs.map bL)),(58, .int .i64 (p.procs.length:Int)),(59, .int .i64 (k:Int)),(76, .slice .shared 17 (it.map dW)),(77, .int .i64 (it.length:Int)),(78, .int .i64 (i.2:Int))]) (fun i=>⟨[bS p,[.int .i64 0, .int .i64 0],bL f],[some p.pn.length]⟩) ?_ (it,0) ⟨rfl,hq⟩)
   rintro⟨Er,n⟩ ⟨j1,j2⟩ KB
   dsimp only at j1 j2
   have uD:=hD
   cases Er with
   | nil=>
    have S9:=drop_nil j1
    simp only [List.map_nil,tG]at j2
    subst j2
    simp only at hR
    repeat' (first
 | simp only [go_sem,hD,hJ,hP,hY,S9]
 | (with_reducible refine aJ hQ ?_;simp only [az,aB,Option.some.injEq,exists_eq_left',go_sem,hD,hJ,hP,hY];repeat' (first | exact Ok.out | with_reducible refine aO ?_ ?_ | (simp;done))))
    refine dA 2 1 ?_ ?_ (IH (rest,k+1) ⟨g2,hR⟩ (Nat.lt_succ_self _))
    ·(simp only [go_sem,hD,hJ,hP,hY,aH bB];try exact bw)
    ·(simp only [go_sem,hD,hJ,hP,hY,aH bB];try exact bw)
   | cons i Er=>
    obtain⟨lR,Cc,sy,Rp⟩:=drop_cons j1
    have rk:n<4611686018427387904:=by omega
    have Cd:i.s∈Sm.e9 f.body:=by rw [← ri];exact List.mem_map_of_mem (List.mem_of_getElem? lR)
    have Rq:=LO (v:=i.s) yg (procs:=p.pn) (by omega) (h.said Ky _ Cd)
    simp only [List.map_cons,tG]at j2
    rcases Bool.eq_false_or_eq_true (i.s.known p f p.pn)with c3 | c3
    ·simp only [c3,if_true]at j2
     repeat' (first
 | simp only [go_sem,hD,hJ,hP,hY,sy,lR,c3]
 | (with_reducible refine CU (Rq _ _) ?_)
 | (with_reducible refine aJ hQ ?_;simp only [az,aB,Option.some.injEq,exists_eq_left',go_sem,hD,hJ,hP,hY];repeat' (first | exact Ok.out | with_reducible refine aO ?_ ?_ | (simp;done))))
     refine dA 3 1 ?_ ?_ (KB (Er,n+1) ⟨Cc,j2⟩ (Nat.lt_succ_self _))
     ·(simp only [go_sem,hD,hJ,hP,hY,aH rk];try exact bw)
     ·(simp only [go_sem,hD,hJ,hP,hY,aH rk];try exact bw)
    ·simp only [c3,Bool.false_eq_true,if_false]at j2
     subst j2
     simp only at hR
     subst hR
     repeat' (first
 | simp only [go_sem,hD,hJ,hP,hY,sy,lR,c3]
 | (with_reducible refine CU (Rq _ _) ?_)
 | (with_reducible refine aJ hQ ?_;simp only [az,aB,Option.some.injEq,exists_eq_left',go_sem,hD,hJ,hP,hY];repeat' (first | exact Ok.out | with_reducible refine aO ?_ ?_ | (simp;done))))
end Go.Abs

/-! Rng -/

namespace Go.Abs
mutual
def Ex.mK:Ex→Prop
 | ⟨_,n,_,kids⟩=>n≤9223372036854775807∧Ex.qK kids
def Ex.qK:List Ex→Prop
 | []=>True
 | x::l=>x.mK∧Ex.qK l
end
end Go.Abs

/-! FineM -/

namespace Go.Abs
mutual
def Sm.mK:Sm→Prop
 | ⟨_,_,_,_,_,x,_,args,aZ,aQ⟩=>x.mK∧(∀ a∈args,a.x.mK)∧Sm.qK aZ∧Sm.qK aQ
def Sm.qK:List Sm→Prop
 | []=>True
 | s::l=>s.mK∧Sm.qK l
end
def Pg.mK (p:Pg):Prop:=∀ f∈p.procs,Sm.qK f.body
theorem yh {f:Pc} : ∀ {l:List Pc} {n:Nat},Pc.dm n l=true→f∈l→(isName f.name=true∧df f.vars=true∧df f.fin=true∧Pm.ef f.params=true)∧∃ n,(Sm.eC 1 n f.body).1=true
 | g::l,n,h,m=>by
  simp only [Pc.dm]at h
  split at h
  ·cases h
  rename_i c1
  split at h
  ·cases h
  rename_i c2
  split at h
  ·cases h
  rename_i c3
  simp only [Bool.or_eq_true,Bool.not_eq_true',not_or,Bool.not_eq_false]at c1 c2 c3
  rcases List.mem_cons.1 m with rfl | m
  ·exact⟨⟨c1.1.1.2,c1.1.2,c1.2,c2⟩,n,c3⟩
  ·exact yh h m
mutual
theorem Es : ∀ (s:Sm) (nest:Int) (n:Nat),(Sm.lp nest n s).1=true→s.size<4611686018427387000→s.qe
 | ⟨id,kind,labels,name,proc,x,has,args,aZ,aQ⟩,nest,n,hm,hs=>by
  obtain⟨_,_,h1,h2,h3,_⟩:=ya hm
  rw [vk]
  rw [(n4 h2).2]at h2
  rw [(n4 h3).2]at h3
  refine⟨AA h1 hs,oW aZ _ _ h2 ?_,oW aQ _ _ h3 ?_⟩ <;> simp only [Sm.size]at hs <;> omega
theorem oW : ∀ (l:List Sm) (nest:Int) (n:Nat),(Sm.dm nest n l).1=true→Sm.aT l<4611686018427387000→Sm.gx l
 | [],_,_,_,_=>by simp only [Sm.gx]
 | s::l,nest,n,hm,hs=>by
  simp only [Sm.dm]at hm
  simp only [Sm.aT]at hs
  split at hm
  ·cases hm
  rename_i hc
  simp only [Bool.not_eq_true',Bool.not_eq_false]at hc
  exact⟨Es s nest n hc (by omega),oW l nest _ hm (by omega)⟩
end
theorem yi {p:Pg} (h:p.may=true) (hs:p.size<4611686018427387000):p.zh:=by
 have hf:=Je h hs
 rw [← B9]at h
 unfold Pg.xu at h
 split at h
 ·cases h
 refine⟨hf.sz,hf.Ax,hf.lJ,fun f m=> ?_⟩
 obtain⟨_,n,e⟩:=yh h m
 rw [(n4 e).2]at e
 have:=Pc.b6 m
 simp only [Pg.size]at hs
 exact oW f.body 1 n e (by unfold Pc.size at this;omega)
end Go.Abs

/-! Sc5 -/

namespace Go.Abs
open Go.Proofs
theorem Jo (x:It):(dP x)[1]? = some (.int .i64 x.s.kind):=nd rfl
theorem Jp (x:It):(dP x)[3]? = some (.str x.s.name):=nd rfl
theorem Jq (x:It):(dP x)[4]? = some (.str x.s.proc):=nd rfl
theorem LP (x:It):List.take 16 (dP x)=dP x:=nd rfl
attribute [go_sem] Jo Jp Jq LP
end Go.Abs

/-! Ar1 -/

namespace Go.Abs
set_option maxRecDepth 8000
open Go.Proofs
def wD:List Pm→List Ar→Bool
 | [],_=>true
 | _,[]=>true
 | a::l,b::m=>if a.ref==b.ref then wD l m else false
def wE (l:List Pm) (m:List Ar):Bool:=if(l.length:Int)==(m.length:Int)then wD l m else false
def Sm.jS (p:Pg) (v:Sm):Bool:=v.kind==4 && match p.find v.proc with | none=>false | some q=>wE q.params v.args
theorem Ol {l:List Pm} {m:List Ar} (hl:l.length<1000000000) (hm:m.length<1000000000) (s:St):aI Try.prog pk [.slice .shared 2 (l.map fm), .slice .shared 6 (m.map c7)] s (.bool (wE l m)) s:=by
 refine aI.pure ?_ (by simp [D.bI,D.ok,Tag.ok,PY,za]) rfl s
 generalize h:wE l m=q
 simp only [wE]at h
 unfold S0
 have b0:((l.length:Int) != (m.length:Int)) = !((l.length:Int)==(m.length:Int)):=rfl
 rcases Bool.eq_false_or_eq_true ((l.length:Int)==(m.length:Int))with b1 | b1
 case inr=>
  rw [b1]at b0
  simp only [b1,Bool.false_eq_true,if_false]at h
  subst h
  refine aI.go q9 rfl fun B Q hB hQ=> ?_
  have⟨hD,hJ,hP,hY⟩:=cf
  repeat' (first
 | simp only [go_sem,hD,hJ,hP,hY,b0,Bool.not_false]
 | (with_reducible refine aJ hQ ?_;simp only [az,aB,Option.some.injEq,exists_eq_left',go_sem,hD,hJ,hP,hY];repeat' (first | exact Ok.out | with_reducible refine aO ?_ ?_ | (simp;done))))
 rw [b1]at b0
 simp only [b1,if_true]at h
 have hlm:l.length=m.length:=by have:=eq_of_beq b1;omega
 refine aI.go q9 rfl fun B Q hB hQ=> ?_
 have⟨hD,hJ,hP,hY⟩:=cf
 repeat' (first
 | simp only [go_sem,hD,hJ,hP,hY,b0,Bool.not_true]
 | (with_reducible refine aJ hQ ?_;simp only [az,aB,Option.some.injEq,exists_eq_left',go_sem,hD,hJ,hP,hY];repeat' (first | exact Ok.out | with_reducible refine aO ?_ ?_ | (simp;done))))
 refine dF 0 0 (bp.ind (ι:=List Pm×List Ar×Nat) (fun i=>l.drop i.2.2=i.1∧m.drop i.2.2=i.2.1∧wD i.1 i.2.1=q) (fun i=>i.1.length)
  (fun i=> [(1, .slice .shared 6 (m.map c7)),(12, .slice .shared 2 (l.map fm)),(13, .int .i64 (l.length:Int)),(14, .int .i64 (i.2.2:Int))]) (fun i=>⟨[],[]⟩) ?_ (l,m,0) ⟨rfl,rfl,h⟩)
 rintro⟨r1,r2,k⟩ ⟨h1,h2,h⟩ IH
 dsimp only at h1 h2 h
 cases r1 with
 | nil=>
  have hD:=drop_nil h1
  simp only [wD]at h
  subst h
  repeat' (first
 | simp only [go_sem,hD,hJ,hP,hY]
 | (with_reducible refine aJ hQ ?_;simp only [az,aB,Option.some.injEq,exists_eq_left',go_sem,hD,hJ,hP,hY];repeat' (first | exact Ok.out | with_reducible refine aO ?_ ?_ | (simp;done))))
 | cons a r1=>
  obtain⟨hJ,g2,hD,g4⟩:=drop_cons h1
  cases r2 with
  | nil=>have:=List.drop_eq_nil_iff.1 h2;omega
  | cons b r2=>
   obtain⟨KD,b2,Et,_⟩:=drop_cons h2
   have bB:k<4611686018427387904:=by omega
   simp only [wD]at h
   have w1:(true==true)=true:=rfl
   have w2:(false==false)=true:=rfl
   have w3:(true==false)=false:=rfl
   have w4:(false==true)=false:=rfl
   have v1:(true != true)=false:=rfl
   have v2:(false != false)=false:=rfl
   have v3:(true != false)=true:=rfl
   have v4:(false != true)=true:=rfl
   rcases Bool.eq_false_or_eq_true a.ref with ea | ea
   ·rcases Bool.eq_false_or_eq_true b.ref with eb | eb
    ·simp only [ea,eb,w1,w2,if_true]at h
     repeat' (first
 | simp only [go_sem,hD,hJ,hP,hY,KD,Et,ea,eb,w1,w2,v1,v2]
 | (with_reducible refine aJ hQ ?_;simp only [az,aB,Option.some.injEq,exists_eq_left',go_sem,hD,hJ,hP,hY];repeat' (first | exact Ok.out | with_reducible refine aO ?_ ?_ | (simp;done))))
     refine dA 0 0 ?_ ?_ (IH (r1,r2,k+1) ⟨g2,b2,h⟩ (Nat.lt_succ_self _))
     ·(simp only [go_sem,hD,hJ,hP,hY,aH bB];try exact bw)
     ·(simp only [go_sem,hD,hJ,hP,hY,aH bB];try exact bw)
    ·simp only [ea,eb,w3,w4,Bool.false_eq_true,if_false]at h
     subst h
     repeat' (first
 | simp only [go_sem,hD,hJ,hP,hY,KD,Et,ea,eb,w3,w4,v3,v4]
 | (with_reducible refine aJ hQ ?_;simp only [az,aB,Option.some.injEq,exists_eq_left',go_sem,hD,hJ,hP,hY];repeat' (first | exact Ok.out | with_reducible refine aO ?_ ?_ | (simp;done))))
   ·rcases Bool.eq_false_or_eq_true b.ref with eb | eb
    ·simp only [ea,eb,w3,w4,Bool.false_eq_true,if_false]at h
     subst h
     repeat' (first
 | simp only [go_sem,hD,hJ,hP,hY,KD,Et,ea,eb,w3,w4,v3,v4]
 | (with_reducible refine aJ hQ ?_;simp only [az,aB,Option.some.injEq,exists_eq_left',go_sem,hD,hJ,hP,hY];repeat' (first | exact Ok.out | with_reducible refine aO ?_ ?_ | (simp;done))))
    ·simp only [ea,eb,w1,w2,if_true]at h
     repeat' (first
 | simp only [go_sem,hD,hJ,hP,hY,KD,Et,ea,eb,w1,w2,v1,v2]
 | (with_reducible refine aJ hQ ?_;simp only [az,aB,Option.some.injEq,exists_eq_left',go_sem,hD,hJ,hP,hY];repeat' (first | exact Ok.out | with_reducible refine aO ?_ ?_ | (simp;done))))
     refine dA 0 0 ?_ ?_ (IH (r1,r2,k+1) ⟨g2,b2,h⟩ (Nat.lt_succ_self _))
     ·(simp only [go_sem,hD,hJ,hP,hY,aH bB];try exact bw)
     ·(simp only [go_sem,hD,hJ,hP,hY,aH bB];try exact bw)
end Go.Abs

/-! Ar2 -/

namespace Go.Abs
set_option maxRecDepth 8000
open Go.Proofs
theorem GO {p:Pg} {v:Sm} (h:p.kY) (hv:v.kc) (s:St):aI Try.prog mw [.agg (bS p), .agg (bf v)] s (.bool (v.jS p)) s:=by
 refine aI.pure ?_ (by simp [D.bI,D.ok,km,mn]) rfl s
 obtain⟨qW,qf,uL⟩:=h.procs
 have tg:v.args.length<1000000000:=by have:=Ar.cP v.args;have:=hv.2.2;omega
 generalize hR:v.jS p=R
 simp only [Sm.jS]at hR
 unfold S0
 have b0:(v.kind != 4) = !(v.kind==4):=rfl
 rcases Bool.eq_false_or_eq_true (v.kind==4)with b1 | b1
 case inr=>
  rw [b1]at b0
  simp only [b1,Bool.false_and]at hR
  subst hR
  refine aI.go q6 rfl fun B Q hB hQ=> ?_
  have⟨hD,hJ,hP,hY⟩:=cf
  repeat' (first
 | simp only [go_sem,hD,hJ,hP,hY,b0,Bool.not_false]
 | (with_reducible refine aJ hQ ?_;simp only [az,aB,Option.some.injEq,exists_eq_left',go_sem,hD,hJ,hP,hY];repeat' (first | exact Ok.out | with_reducible refine aO ?_ ?_ | (simp;done))))
 rw [b1]at b0
 simp only [b1,Bool.true_and,Pg.find]at hR
 refine aI.go q6 rfl fun B Q hB hQ=> ?_
 have⟨hD,hJ,hP,hY⟩:=cf
 repeat' (first
 | simp only [go_sem,hD,hJ,hP,hY,b0,Bool.not_true]
 | (with_reducible refine aJ hQ ?_;simp only [az,aB,Option.some.injEq,exists_eq_left',go_sem,hD,hJ,hP,hY];repeat' (first | exact Ok.out | with_reducible refine aO ?_ ?_ | (simp;done))))
 refine dF 2 0 (bp.ind (ι:=List Pc×Nat) (fun i=>p.procs.drop i.2=i.1∧(match gO v.proc i.1 with | none=>false | some q=>wE q.params v.args)=R) (fun i=>i.1.length)
  (fun i=> [(3, .ptr 1 0),(11, .slice .shared 5 (p.procs.map bL)),(12, .int .i64 (p.procs.length:Int)),(13, .int .i64 (i.2:Int))]) (fun i=>⟨[bS p,bf v],[]⟩) ?_ (p.procs,0) ⟨rfl,hR⟩)
 clear hR
 rintro⟨rest,k⟩ ⟨h1,hR⟩ IH
 dsimp only at h1 hR
 cases rest with
 | nil=>
  have hD:=drop_nil h1
  simp only [gO]at hR
  subst hR
  repeat' (first
 | simp only [go_sem,hD,hJ,hP,hY]
 | (with_reducible refine aJ hQ ?_;simp only [az,aB,Option.some.injEq,exists_eq_left',go_sem,hD,hJ,hP,hY];repeat' (first | exact Ok.out | with_reducible refine aO ?_ ?_ | (simp;done))))
 | cons a rest=>
  obtain⟨hJ,g2,hD,g4⟩:=drop_cons h1
  have bB:k<4611686018427387904:=by omega
  have yg:=h.small (List.mem_of_getElem? hJ)
  have Kz:=fun s=>Ol (l:=a.params) (m:=v.args) (by have:=yg.par;omega) tg s
  simp only [gO]at hR
  rcases Bool.eq_false_or_eq_true (a.name==v.proc)with c1 | c1
  ·simp only [c1,if_true]at hR
   subst hR
   repeat' (first
 | simp only [go_sem,hD,hJ,hP,hY,c1]
 | (with_reducible refine CU (Kz _) ?_)
 | (with_reducible refine aJ hQ ?_;simp only [az,aB,Option.some.injEq,exists_eq_left',go_sem,hD,hJ,hP,hY];repeat' (first | exact Ok.out | with_reducible refine aO ?_ ?_ | (simp;done))))
  ·simp only [c1,Bool.false_eq_true,if_false]at hR
   repeat' (first
 | simp only [go_sem,hD,hJ,hP,hY,c1]
 | (with_reducible refine aJ hQ ?_;simp only [az,aB,Option.some.injEq,exists_eq_left',go_sem,hD,hJ,hP,hY];repeat' (first | exact Ok.out | with_reducible refine aO ?_ ?_ | (simp;done))))
   refine dA 2 0 ?_ ?_ (IH (rest,k+1) ⟨g2,hR⟩ (Nat.lt_succ_self _))
   ·(simp only [go_sem,hD,hJ,hP,hY,aH bB];try exact bw)
   ·(simp only [go_sem,hD,hJ,hP,hY,aH bB];try exact bw)
theorem LQ {p:Pg} {v:Sm} (h:p.kY) (hv:v.kc) (s:St):aI Try.prog pj [.agg (bS p), .agg (bf v)] s (.bool (p.scope.1==0 && v.jS p)) s:=by
 refine aI.pure ?_ (by simp [D.bI,D.ok,km,mn]) rfl s
 have nR:=fun s=>vm h s
 have yj:=fun s=>GO h hv s
 unfold S0
 rcases Bool.eq_false_or_eq_true (p.scope.1==0)with b1 | b1
 all_goals
  simp only [b1,Bool.true_and,Bool.false_and]
  refine aI.go xh rfl fun B Q hB hQ=> ?_
  have⟨hD,hJ,hP,hY⟩:=cf
  repeat' (first
 | simp only [go_sem,hD,hJ,hP,hY,b1]
 | (with_reducible refine CU (nR _) ?_)
 | (with_reducible refine CU (yj _) ?_)
 | (with_reducible refine aJ hQ ?_;simp only [az,aB,Option.some.injEq,exists_eq_left',go_sem,hD,hJ,hP,hY];repeat' (first | exact Ok.out | with_reducible refine aO ?_ ?_ | (simp;done))))
def AQ (p:Pg):List Sm→Option Sm
 | []=>none
 | v::l=>if v.kind==4 && !(v.jS p)then some v else AQ p l
def mL (c:Int):Option Sm→Int×Int
 | some v=>(c,v.id)
 | none=>(0,0)
def Pg.arity (p:Pg):Int×Int:=if p.scope.1==0 then mL 6 (AQ p p.pre)else(1,0)
theorem Pg.kY.pre {p:Pg} (h:p.kY) : ∀ v∈p.pre,v.kc:=fun v m=>by
 simp only [Pg.pre,List.mem_flatten,List.mem_map]at m
 obtain⟨l,⟨f,hf,rfl⟩,m⟩:=m
 exact h.said hf v m
theorem vo {p:Pg} (h:p.kY) (s:St):aI Try.prog j9 [.agg (bS p)] s (.agg [.int .i64 p.arity.1, .int .i64 p.arity.2]) s:=by
 refine aI.pure ?_ (by simp [D.bI,D.ok,km]) rfl s
 obtain⟨qW,qf,uL⟩:=h.procs
 have nR:=fun s=>vm h s
 have cU:=fun s=>ze (p:=p) (by omega) s
 have hL:=(lY p).1
 have Rr:=lZ p
 generalize hR:p.arity=R
 simp only [Pg.arity]at hR
 unfold S0
 have b0:(p.scope.1 != 0) = !(p.scope.1==0):=rfl
 rcases Bool.eq_false_or_eq_true (p.scope.1==0)with b1 | b1
 case inr=>
  rw [b1]at b0
  simp only [b1,Bool.false_eq_true,if_false]at hR
  subst hR
  refine aI.go p9 rfl fun B Q hB hQ=> ?_
  have⟨hD,hJ,hP,hY⟩:=cf
  repeat' (first
 | simp only [go_sem,hD,hJ,hP,hY,b0,Bool.not_false]
 | (with_reducible refine CU (nR _) ?_)
 | (with_reducible refine aJ hQ ?_;simp only [az,aB,Option.some.injEq,exists_eq_left',go_sem,hD,hJ,hP,hY];repeat' (first | exact Ok.out | with_reducible refine aO ?_ ?_ | (simp;done))))
 rw [b1]at b0
 simp only [b1,if_true, ← hL]at hR
 refine aI.go p9 rfl fun B Q hB hQ=> ?_
 have⟨hD,hJ,hP,hY⟩:=cf
 repeat' (first
 | simp only [go_sem,hD,hJ,hP,hY,b0,Bool.not_true,rN]
 | (with_reducible refine CU (nR _) ?_)
 | (with_reducible refine CU (cU _) ?_)
 | (with_reducible refine aJ hQ ?_;simp only [az,aB,Option.some.injEq,exists_eq_left',go_sem,hD,hJ,hP,hY];repeat' (first | exact Ok.out | with_reducible refine aO ?_ ?_ | (simp;done))))
 refine dF 2 0 (bp.ind (ι:=List Im×Nat) (fun i=>p.dM.L.drop i.2=i.1∧mL 6 (AQ p (i.1.map Im.s))=R) (fun i=>i.1.length)
  (fun i=> [(1, .ptr 0 0),(2, .ptr 1 0),(14, .slice .shared 17 (p.dM.L.map dW)),(15, .int .i64 (p.dM.L.length:Int)),(16, .int .i64 (i.2:Int))]) (fun i=>⟨[bS p,[.int .i64 0, .int .i64 0]],[]⟩) ?_ (p.dM.L,0) ⟨rfl,hR⟩)
 clear hR
 rintro⟨rest,k⟩ ⟨h1,hR⟩ IH
 dsimp only at h1 hR
 cases rest with
 | nil=>
  have hD:=drop_nil h1
  simp only [List.map_nil,AQ,mL]at hR
  subst hR
  repeat' (first
 | simp only [go_sem,hD,hJ,hP,hY]
 | (with_reducible refine aJ hQ ?_;simp only [az,aB,Option.some.injEq,exists_eq_left',go_sem,hD,hJ,hP,hY];repeat' (first | exact Ok.out | with_reducible refine aO ?_ ?_ | (simp;done))))
 | cons a rest=>
  obtain⟨hJ,g2,hD,g4⟩:=drop_cons h1
  have bB:k<4611686018427387904:=by omega
  have Cd:a.s∈p.pre:=by rw [← hL];exact List.mem_map_of_mem (List.mem_of_getElem? hJ)
  have yj:=fun s=>GO h (h.pre _ Cd) s
  simp only [List.map_cons,AQ]at hR
  rcases Bool.eq_false_or_eq_true (a.s.kind==4)with c1 | c1
  ·rcases Bool.eq_false_or_eq_true (a.s.jS p)with c2 | c2
   ·simp only [c1,c2,Bool.not_true,Bool.and_false,Bool.false_eq_true,if_false]at hR
    repeat' (first
 | simp only [go_sem,hD,hJ,hP,hY,c1,c2]
 | (with_reducible refine CU (yj _) ?_)
 | (with_reducible refine aJ hQ ?_;simp only [az,aB,Option.some.injEq,exists_eq_left',go_sem,hD,hJ,hP,hY];repeat' (first | exact Ok.out | with_reducible refine aO ?_ ?_ | (simp;done))))
    refine dA 2 0 ?_ ?_ (IH (rest,k+1) ⟨g2,hR⟩ (Nat.lt_succ_self _))
    ·(simp only [go_sem,hD,hJ,hP,hY,aH bB];try exact bw)
    ·(simp only [go_sem,hD,hJ,hP,hY,aH bB];try exact bw)
   ·simp only [c1,c2,Bool.not_false,Bool.and_true,if_true,mL]at hR
    subst hR
    repeat' (first
 | simp only [go_sem,hD,hJ,hP,hY,c1,c2]
 | (with_reducible refine CU (yj _) ?_)
 | (with_reducible refine aJ hQ ?_;simp only [az,aB,Option.some.injEq,exists_eq_left',go_sem,hD,hJ,hP,hY];repeat' (first | exact Ok.out | with_reducible refine aO ?_ ?_ | (simp;done))))
  ·simp only [c1,Bool.false_and,Bool.false_eq_true,if_false]at hR
   repeat' (first
 | simp only [go_sem,hD,hJ,hP,hY,c1]
 | (with_reducible refine CU (yj _) ?_)
 | (with_reducible refine aJ hQ ?_;simp only [az,aB,Option.some.injEq,exists_eq_left',go_sem,hD,hJ,hP,hY];repeat' (first | exact Ok.out | with_reducible refine aO ?_ ?_ | (simp;done))))
   refine dA 2 0 ?_ ?_ (IH (rest,k+1) ⟨g2,hR⟩ (Nat.lt_succ_self _))
   ·(simp only [go_sem,hD,hJ,hP,hY,aH bB];try exact bw)
   ·(simp only [go_sem,hD,hJ,hP,hY,aH bB];try exact bw)
end Go.Abs

/-! Ar3 -/

namespace Go.Abs
open Go.Proofs
theorem yk {p:Pg} (h:(p.scope.1==0)=true):p.may=true:=by
 unfold Pg.scope at h
 split at h
 ·assumption
 ·cases h
end Go.Abs

/-! Srt1 -/

namespace Go.Abs
open Go.Proofs
def jB (out:List aD):List aD→aD→Bool→aD×Bool
 | [],c,a=>(c,a)
 | s::l,c,a=>if !(eg out s) && (!a || bytesLess s c)then jB out l s true else jB out l c a
def GQ (l out:List aD):List aD:=if(jB out l [] false).2 then out++ [(jB out l [] false).1]else out
def lb (l:List aD):Nat→List aD→List aD
 | 0,out=>out
 | n+1,out=>lb l n (GQ l out)
def gn (l:List aD):List aD:=lb l l.length []
end Go.Abs

/-! Shelf -/

namespace Go.Proofs
open Go.Shelf
def Try.BE:Go.Shelf.Ren:=⟨fun | 190=>44 | 125=>69 | 258=>68 | 128=>90 | 129=>91 | 302=>81 | 303=>82 | 304=>83 | 305=>84 | 306=>85 | 307=>86 | 308=>87 | 309=>88 | 310=>89 | 333=>98 | 329=>99 | 330=>100 | 334=>101 | 335=>102 | 336=>103 | 344=>106 | n=>n,fun | 31=>22 | 9=>9 | 3=>3 | 46=>110 | 0=>0 | 51=>129 | 53=>131 | 4=>4 | 183=>121 | 182=>120 | 131=>126 | 5=>5 | 218=>137 | 222=>141 | 228=>144 | 229=>145 | n=>n,fun | n=>n⟩
theorem Try.Ce:Go.Proofs.Lays.n190 Try.prog Try.BE:= {
 mixed:=by kernel_rfl
 f125:=Try.func69.trans (congrArg some (by kernel_rfl))
 f128:=Try.func90.trans (congrArg some (by kernel_rfl))
 f129:=Try.func91.trans (congrArg some (by kernel_rfl))
 f190:=Try.func44.trans (congrArg some (by kernel_rfl))
 f258:=Try.func68.trans (congrArg some (by kernel_rfl))
 f302:=Try.func81.trans (congrArg some (by kernel_rfl))
 f303:=Try.func82.trans (congrArg some (by kernel_rfl))
 f304:=Try.func83.trans (congrArg some (by kernel_rfl))
 f305:=Try.func84.trans (congrArg some (by kernel_rfl))
 f306:=Try.func85.trans (congrArg some (by kernel_rfl))
 f307:=Try.func86.trans (congrArg some (by kernel_rfl))
 f308:=Try.func87.trans (congrArg some (by kernel_rfl))
 f309:=Try.func88.trans (congrArg some (by kernel_rfl))
 f310:=Try.func89.trans (congrArg some (by kernel_rfl))
 f329:=Try.func99.trans (congrArg some (by kernel_rfl))
 f330:=Try.func100.trans (congrArg some (by kernel_rfl))
 f333:=Try.func98.trans (congrArg some (by kernel_rfl))
 f334:=Try.func101.trans (congrArg some (by kernel_rfl))
 f335:=Try.func102.trans (congrArg some (by kernel_rfl))
 f336:=Try.func103.trans (congrArg some (by kernel_rfl))
 f344:=Try.func106.trans (congrArg some (by kernel_rfl))
 t0:=Try.underlying0
 a0:=Try.isAgg0
 z0:=Try.sizeOf0
 v0:=Try.zeroValue0
 t3:=Try.underlying3
 a3:=Try.isAgg3
 z3:=Try.sizeOf3
 v3:=Try.zeroValue3
 t4:=Try.underlying4
 a4:=Try.isAgg4
 z4:=Try.sizeOf4
 v4:=Try.zeroValue4
 t5:=Try.underlying5
 a5:=Try.isAgg5
 z5:=Try.sizeOf5
 v5:=Try.zeroValue5
 t9:=Try.underlying9
 a9:=Try.isAgg9
 z9:=Try.sizeOf9
 v9:=Try.zeroValue9
 t31:=Try.underlying22
 a31:=Try.isAgg22
 z31:=Try.sizeOf22
 v31:=Try.zeroValue22
 t46:=Try.underlying110
 a46:=Try.isAgg110
 z46:=Try.sizeOf110
 v46:=Try.zeroValue110
 t51:=Try.underlying129
 a51:=Try.isAgg129
 z51:=Try.sizeOf129
 v51:=Try.zeroValue129
 t53:=Try.underlying131
 a53:=Try.isAgg131
 z53:=Try.sizeOf131
 v53:=Try.zeroValue131
 t131:=Try.underlying126
 a131:=Try.isAgg126
 z131:=Try.sizeOf126
 v131:=Try.zeroValue126
 t182:=Try.underlying120
 a182:=Try.isAgg120
 z182:=Try.sizeOf120
 v182:=Try.zeroValue120
 t183:=Try.underlying121
 a183:=Try.isAgg121
 z183:=Try.sizeOf121
 v183:=Try.zeroValue121
 t218:=Try.underlying137
 a218:=Try.isAgg137
 z218:=Try.sizeOf137
 v218:=Try.zeroValue137
 t222:=Try.underlying141
 a222:=Try.isAgg141
 z222:=Try.sizeOf141
 v222:=Try.zeroValue141
 t228:=Try.underlying144
 a228:=Try.isAgg144
 z228:=Try.sizeOf144
 v228:=Try.zeroValue144
 t229:=Try.underlying145
 a229:=Try.isAgg145
 z229:=Try.sizeOf145
 v229:=Try.zeroValue145}
open Go.Sort Go.RowKit in
theorem Try.slices_Sort_string (tH off cap:Nat) (ss:List (List UInt8)) (w:World) (hH:Holds encStr w tH off ss.toArray) (Ta:tH<w.heap.size) (dE:ss.length<4611686018427387904) :
 Calls Try.prog 44 #[.slice (some ⟨tH,off,none⟩) ss.length cap] w fun e w'=>
  e = .returned (.tuple #[])∧∃ n os,w'=grow (putRow encStr (Sort.ahead w n) tH off (ss.mergeSort fun x y=>decide (x≤y)).toArray) os:=Any.slices_Sort_string Try.Ce tH off cap ss w hH Ta dE
def Try.BF:Go.Shelf.Ren:=⟨fun | 194=>45 | n=>n,fun | 31=>22 | 9=>9 | 3=>3 | 4=>4 | 0=>0 | n=>n,fun | n=>n⟩
theorem Try.Cf:Go.Proofs.Lays.n194 Try.prog Try.BF:= {
 mixed:=by kernel_rfl
 f194:=Try.func45.trans (congrArg some (by kernel_rfl))
 t0:=Try.underlying0
 a0:=Try.isAgg0
 z0:=Try.sizeOf0
 v0:=Try.zeroValue0
 t3:=Try.underlying3
 a3:=Try.isAgg3
 z3:=Try.sizeOf3
 v3:=Try.zeroValue3
 t4:=Try.underlying4
 a4:=Try.isAgg4
 z4:=Try.sizeOf4
 v4:=Try.zeroValue4
 t9:=Try.underlying9
 a9:=Try.isAgg9
 z9:=Try.sizeOf9
 v9:=Try.zeroValue9
 t31:=Try.underlying22
 a31:=Try.isAgg22
 z31:=Try.sizeOf22
 v31:=Try.zeroValue22}
open Go.RowKit Go.Lib Go.Sort in
theorem Try.slices_Compact_string (tH off cap:Nat) (zs:List (List UInt8)) (w:World) (hH:Holds encStr w tH off zs.toArray) (dE:zs.length≤9223372036854775807) (oc:zs.length≤cap) :
 Calls Try.prog 45 #[.slice (some ⟨tH,off,none⟩) zs.length cap] w fun e w'=>e = .returned (.slice (some ⟨tH,off,none⟩) (Lib.compact zs).length cap)∧∃ q,w'=putRow encStr (Sort.ahead w q) tH off (Lib.compact zs++List.replicate (zs.length - (Lib.compact zs).length) []).toArray:=Any.slices_Compact_string Try.Cf tH off cap zs w hH dE oc
open Go.RowKit Go.Lib Go.Sort in
theorem Try.slices_Compact_string_empty (a:Option Addr) (cap:Nat) (w:World) :
 Calls Try.prog 45 #[.slice a 0 cap] w fun e w'=>e = .returned (.slice a 0 cap)∧w'=w:=Any.slices_Compact_string_empty Try.Cf a cap w
open Go.RowKit Go.Sort in
theorem Try.slices_Sort_string_none (p:Option Addr) (cap:Nat) (w:World) :
 Calls Try.prog 44 #[.slice p 0 cap] w fun e w'=>e = .returned (.tuple #[])∧w'=w:=Any.slices_Sort_string_none Try.Ce p cap w
end Go.Proofs

/-! SortR -/

namespace Go.Abs
open Go.Proofs
section
variable {P:Program} {B:fc} {nt:Nat}
theorem LR {x:Operand} {t:Nat} (h:cX x=some (.s t)):x = .tmp t:=by
 unfold cX at h
 split at h
 ·cases h;rfl
 ·obtain⟨d,_,h⟩:=map_some h;cases h
 ·cases h
 ·cases h
theorem Ev {ops:Array Oper} {o:Oper} {g g':Option (Nat×Bool)} {dst:Option Nat} {f:Nat} {xs:List X} (h:nz P ops o g=some (.call dst g' f xs)) :
 g'=g∧∃ args jX,o.op = .call ⟨.value (.func f),args,jX⟩∧enters P f=true∧qR args.toList=some xs:=by
 unfold nz at h
 split at h
 ·rename_i f' args jX jd
  split at h
  ·rename_i he
   obtain⟨xs',h1,h2⟩:=map_some h
   cases h2
   exact⟨rfl,args,jX,jd,he,h1⟩
  ·cases h
 ·obtain⟨_,_,h⟩:=map_some h;cases h
 ·split at h
  ·cases h
  ·split at h <;> cases h
theorem GR {ops:Array Oper} {o:Oper} {tmps:Array Value} (hg:o7 ops o.guard=some none):Region.wanted o (yielded ops tmps)=true:=by
 have:o.guard=none:=by
  cases xI:o.guard with
  | none=>rfl
  | some p=>
   obtain⟨j,b⟩:=p
   rw [xI]at hg
   unfold o7 at hg
   simp only at hg
   split at hg <;> cases hg
 simp [Region.wanted,this]
theorem Sem.On {a k b f:Nat} {is:List AI} {Q:Exit→Tm→St→Prop} {tm:Tm} {s:St}
 (Qu : ∀ act w,Holds B nt (tm.put (some a) (tm.get k)) s act w→Calls P f #[act.tmps.getD a Go.undef] w fun e w'=>∃ v,e = .returned v∧∃ bg s',Holds B nt bg s' (act.put (some b) v) w'∧fB P is (Q .normal) bg s') :
 Sem P B nt (.run (.op (some a) none (.mv (.s k)):: .call (some b) none f [.s a]::is)) Q tm s:=by
 intro c hc act w hh
 obtain⟨id,ops,rfl,hi⟩:=iN hc
 refine wp_region ?_
 have key : ∀ (l:List Nat) (ol:List Oper),l.map (ops[·]?)=ol.map some→mb P nt ops ol=some (.op (some a) none (.mv (.s k)):: .call (some b) none f [.s a]::is)→wpOps P ops (lj B nt Q) l act w:=by
  intro l ol hl qA
  match ol,l,hl with
  | [],_,_=>simp [mb]at qA
  | o0::ol,[],hl=>simp at hl
  | o0::ol,j0::l,hl=>
   simp only [List.map_cons,List.cons.injEq]at hl
   obtain⟨ZI,hl⟩:=hl
   unfold mb at qA
   split at qA
   ·rename_i i0 is0 h1 h2
    cases qA
    match ol,l,hl,h2 with
    | [],_,_,h2=>simp [mb]at h2
    | o1::ol,[],hl,_=>simp at hl
    | o1::ol,j1::l,hl,h2=>
     simp only [List.map_cons,List.cons.injEq]at hl
     obtain⟨ZJ,hl⟩:=hl
     unfold mb at h2
     split at h2
     ·rename_i i1 is1 h3 h4
      cases h2
      obtain⟨M,e,r,ht,hn,hd⟩:=hh
      have x3:=nU h1
      have Rs:=nU h3
      simp only [AI.dst]at x3 Rs
      refine qz (K':=fun bg s'=>bg=tm.put (some a) (tm.get k)∧s'=s) ZI h1 r (B.laid.ext e) ht (by simp only [fB,guarded,aG,X.ev,and_self]) (fun d v s1 w1 M1 hk e1 r1 hv=> ?_)
      obtain⟨uz,rfl⟩:=hk
      have hH:=Holds.put e ht hn hd (qX h1) e1 r1 hv
      simp only [AI.dst]at uz
      rw [← x3]at hH ⊢
      rw [uz]at hH
      obtain⟨g,hg,_,hb⟩:=td h3
      obtain⟨rfl,args,jX,jd,rF,kx⟩:=Ev hb
      simp only [wpOps,ZJ,GR hg,if_true]
      left
      have Tb:args.map (act.put (some a) v).eval = #[(act.put (some a) v).tmps.getD a Go.undef]:=by
       have:args.toList = [.tmp a]:=by
        match hA:args.toList with
        | []=>rw [hA]at kx;simp [qR]at kx
        | [x]=>
         rw [hA]at kx
         simp only [qR]at kx
         split at kx
         ·rename_i x' r' hx hr
          cases kx
          rw [LR hx]
         ·cases kx
        | x::y::z=>
         rw [hA]at kx
         simp only [qR]at kx
         split at kx
         ·rename_i x' r' hx hr
          cases kx
          split at hr
          ·cases hr
          ·cases hr
         ·cases kx
       have:args = #[.tmp a]:=by rw [← Array.toArray_toList (xs:=args),this]
       rw [this]
       simp only [List.map_toArray,List.map_cons,List.map_nil]
       rfl
      have hex:(execOp (act.put (some a) v).eval o1).run P w1 = .ok (.enter f #[(act.put (some a) v).tmps.getD a Go.undef]) w1:=by
       obtain⟨dst,op,type,pos,after,guard⟩:=o1
       simp only at jd
       subst jd
       rw [← Tb]
       exact qu (act.put (some a) v).eval dst f args jX type pos after guard rfl rF w1
      unfold Oper.wp
      rw [hex,Oper.upon_enter]
      refine(Qu _ _ hH).mono ?_
      rintro en w' ⟨v',rfl,bg,s',ZK,ZL⟩
      rw [← Rs]
      exact s7 (Q:=Q) l ol _ hl h4 bg s' _ w' ZL ZK
     ·cases h2
   ·cases qA
 exact key _ _ (s8 ops) hi
theorem yl (hB:B.s = ⟨[],[]⟩) {tm:Tm} {s:St} {act:Act} {w:World} (h:Holds B nt tm s act w) {t:Nat} {l:List aD} (ht:s.av[t]? = some (some l.length)) {k0:Nat} (N9:tm.get k0 = .slice (.tok t) 1 (l.map encStr)) :
 (l = []∧∀ k,tm.get k = .slice (.tok t) 1 (l.map encStr)→(act.tmps.getD k Go.undef = .slice none 0 0∨∃ b q,act.tmps.getD k Go.undef = .slice (some ⟨b,q,none⟩) 0 0))∨
 ∃ (b cap:Nat) (vs:Array Value) (T:TypeId),(∀ k,tm.get k = .slice (.tok t) 1 (l.map encStr)→act.tmps.getD k Go.undef = .slice (some ⟨b,0,none⟩) l.length cap)∧l.length≤cap∧w.heap[b]? = some (.cells vs T (0,0))∧vs.size=cap∧B.w.heap.size≤b∧
  ∀ j (hj:j<l.length),vs[j]? = some (.string ⟨⟨l[j]⟩⟩):=by
 obtain⟨M,e,r,hr,_,_⟩:=h
 rcases r.tok t _ ht with ⟨h3,h4⟩ | ⟨b,cap,z,vs,T,h3,h4,h5,h6,h7⟩
 ·have hl:l = []:=List.eq_nil_of_length_eq_zero h4
  subst hl
  refine .inl ⟨rfl,fun k hk=> ?_⟩
  have hv:=hr k
  rw [hk]at hv
  generalize act.tmps.getD k Go.undef=v at hv
  cases hv with
  | gb _ _ cap hc lf=>subst hc;exact .inl rfl
  | slice _ _ _ b q cap hl hs h1 h2 lf=>
   rcases(lf.2 _ ht).2 rfl with ⟨_,h0,_⟩ | ⟨b',_,gE⟩
   ·subst h0;exact .inr ⟨b,q,rfl⟩
   ·rw [h3]at gE;cases gE
 ·right
  have each : ∀ k,tm.get k = .slice (.tok t) 1 (l.map encStr)→z=1∧act.tmps.getD k Go.undef = .slice (some ⟨b,0,none⟩) l.length cap∧l.length≤cap∧∀ j (hj:j<l.length),∃ u,M.G b j=some u∧RD M s (.str l[j]) u:=by
   intro k hk
   have hv:=hr k
   rw [hk]at hv
   generalize act.tmps.getD k Go.undef=v at hv
   generalize im:l.map encStr=rows at hv
   cases hv with
   | gb _ _ cap hc lf=>
    have hl:l = []:=by cases l <;> simp at im;rfl
    subst hl
    rcases(lf.2 _ ht).2 rfl with ⟨h0,_⟩ | ⟨b',h0,_⟩
    ·rw [h3]at h0;cases h0
    ·cases h0
   | slice _ _ _ b2 q aaT hl hs h1 h2 lf=>
    subst im
    rw [List.length_map]at hl lf
    rcases(lf.2 _ ht).2 rfl with ⟨h0,_⟩ | ⟨b',hb,gE⟩
    ·rw [h3]at h0;cases h0
    ·cases hb
     rw [h3]at gE
     cases gE
     refine⟨rfl,by rw [List.length_map],hl,fun j hj=> ?_⟩
     have e1:(l.map encStr)[j]? = some [.str l[j]]:=by rw [List.getElem?_map,List.getElem?_eq_getElem hj];rfl
     obtain⟨u,hu⟩:=h1 j _ 0 _ e1 rfl
     refine⟨u,by simpa using hu,h2 j _ 0 _ u e1 rfl hu⟩
  obtain⟨rfl,_,oc,iM⟩:=each k0 N9
  have cU:B.w.heap.size≤b:=by
   rcases e.l9 t b cap 1 ⟨_,ht⟩ h3 with ⟨⟨n,hn⟩,_⟩ | h
   ·rw [hB]at hn;simp at hn
   ·exact h
  refine⟨b,cap,vs,T,fun k hk=>(each k hk).2.1,oc,h4,by simpa [zs]using h5,cU,fun j hj=> ?_⟩
  obtain⟨u,hu,lx⟩:=iM j hj
  have:=(r.comm _ _ _ hu).1
  rw [gR h4,lx.gY]at this
  exact this
theorem AR (hB:B.s = ⟨[],[]⟩) {tm:Tm} {s:St} {act oE:Act} {w w':World} (h:Holds B nt tm s act w) {b cap:Nat} {vs:Array Value} {T:TypeId} (dE:vs.size=cap) (qc:B.w.heap.size≤b)
 (iK : ∀ q,q<B.w.heap.size→w'.heap[q]? = w.heap[q]?) (cW:w'.heap[b]? = some (.cells vs T (0,0))) (BP:w.heap.size≤w'.heap.size) (xQ:w'.os=w.os) (vO:w'.tape=w.tape) (Hs:w'.output=w.output)
 {l:List aD} (hl:l.length≤cap) (iM : ∀ j (hj:j<l.length),vs[j]? = some (.string ⟨⟨l[j]⟩⟩)) {k:Nat} (Ew:oE.tmps.getD k Go.undef = .slice (some ⟨b,0,none⟩) l.length cap) (hn:oE.tmps.size=nt) (hd:oE.defers = []) :
 Holds B nt [(k, .slice (.tok 0) 1 (l.map encStr))] ⟨[],[some l.length]⟩ oE w':=by
 obtain⟨M,e,r,hr,_,_⟩:=h
 let M':Map:=⟨fun q o=>if q=b then(if o<l.length then(l[o]?).map fun x=>Value.string ⟨⟨x⟩⟩else none)else B.M.G q o,B.M.loc,fun _=>some (b,cap,1)⟩
 have Rt : ∀ q o v,B.M.G q o=some v→q<B.w.heap.size∧w'.cell? ⟨q,o,none⟩=some v∧v.oneCell'=true:=by
  intro q o v hq
  obtain⟨h1,h2⟩:=r.comm q o v (e.le.G q o v hq)
  have hD:=B.TV q o v hq
  refine⟨hD, ?_,h2⟩
  rw [← h1]
  simp [World.cell?,iK q hD]
 have pP : ∀ j (hj:j<l.length),w'.cell? ⟨b,j,none⟩=some (.string ⟨⟨l[j]⟩⟩):=fun j hj=>by rw [gR cW];exact iM j hj
 have hJ : ∀ (j:Nat) v,(if j<l.length then(l[j]?).map fun x=>Value.string ⟨⟨x⟩⟩else none)=some v→∃ hj:j<l.length,v = .string ⟨⟨l[j]⟩⟩:=by
  intro j v hv
  split at hv
  ·rename_i hj
   rw [List.getElem?_eq_getElem hj]at hv
   exact⟨hj,by simpa using hv.symm⟩
  ·cases hv
 refine⟨M',⟨⟨fun q o v hq=> ?_,by simp [hB],fun o ho=>rfl,by rw [hB];exact Nat.zero_le _,fun t n' ht _=>by rw [hB]at ht;exact absurd ht (Nat.not_lt_zero _)⟩,fun q hq _ _=> ?_,fun o _ h2=>absurd h2 (Nat.not_lt_zero _),fun t q c z _ hb=> ?_,fun q o dQ=> ?_,Nat.le_trans e.size BP,xQ.trans e.os,vO.trans e.tape,Hs.trans e.output⟩,
  ⟨fun q o v hq=> ?_,fun o ds ho=>by simp at ho,fun o ho=>absurd ho (Nat.not_lt_zero _),fun o o' ho=>absurd ho (Nat.not_lt_zero _),fun t n ht=> ?_,fun t q c z o _ _ ho=>absurd ho (Nat.not_lt_zero _),fun t t' q c z c' z' Gl kv _ _=> ?_⟩,fun u=> ?_,hn,hd⟩
 ·show(if q=b then _ else B.M.G q o)=some v
  rw [if_neg (by have:=(Rt q o v hq).1;omega)]
  exact hq
 ·rw [iK q hq]
  exact e.kept q hq (fun o ho=>by rw [hB]at ho;exact absurd ho (Nat.not_lt_zero _)) (fun t c z kv=>by rw [hB]at kv;obtain⟨n,sv⟩:=kv;simp at sv)
 ·cases hb;exact .inr qc
 ·by_cases hq:q=b
  ·subst hq;exact .inl qc
  ·exact absurd (show(if q=b then _ else B.M.G q o)=B.M.G q o from if_neg hq) dQ
 ·have mT:(if q=b then(if o<l.length then(l[o]?).map fun x=>Value.string ⟨⟨x⟩⟩else none)else B.M.G q o)=some v:=hq
  by_cases Oo:q=b
  ·rw [if_pos Oo]at mT
   obtain⟨hj,rfl⟩:=hJ o v mT
   rw [Oo]
   exact⟨pP o hj,rfl⟩
  ·rw [if_neg Oo]at mT
   exact(Rt q o v mT).2
 ·match t with
  | 0=>
   simp at ht
   subst ht
   refine .inr ⟨b,cap,1,vs,T,rfl,cW,by simp [zs,dE],hl,fun off ho=> ?_,fun h=>by cases h⟩
   show(if b=b then(if off<l.length then _ else none)else B.M.G b off)=none
   rw [if_pos rfl,if_neg (by simp [zs]at ho;omega)]
  | t+1=>simp at ht
 ·obtain⟨n1,h1⟩:=Gl
  obtain⟨n2,h2⟩:=kv
  have a1:=(List.getElem?_eq_some_iff.1 h1).1
  have a2:=(List.getElem?_eq_some_iff.1 h2).1
  simp at a1 a2
  omega
 ·simp only [Tm.get]
  split
  ·rename_i Oq
   subst Oq
   rw [Ew]
   have:=RD.slice (M:=M') (s:=⟨[],[some l.length]⟩) (.tok 0) 1 (l.map encStr) b 0 cap (by simpa using hl) (fun row hr=>by
    obtain⟨x,_,rfl⟩:=List.mem_map.1 hr;rfl) (fun i row j d e1 e2=> ?_) (fun i row j d u e1 e2 eu=> ?_) ⟨by simp,fun n sv=>by
    simp at sv
    subst sv
    exact⟨by simp,fun _=> .inr ⟨b,rfl,rfl⟩⟩⟩
   ·simpa using this
   ·rw [List.getElem?_map]at e1
    cases sm:l[i]? with
    | none=>rw [sm]at e1;cases e1
    | some x=>
     have mg:=(List.getElem?_eq_some_iff.1 sm).1
     rw [sm]at e1
     cases e1
     have hj:j=0:=by cases j with | zero=>rfl | succ j=>simp [encStr]at e2
     subst hj
     refine⟨.string ⟨⟨x⟩⟩, ?_⟩
     show(if b=b then(if 0+(i*1+0)<l.length then _ else none)else _)=_
     rw [if_pos rfl,if_pos (by omega)]
     simp [sm]
   ·rw [List.getElem?_map]at e1
    cases sm:l[i]? with
    | none=>rw [sm]at e1;cases e1
    | some x=>
     have mg:=(List.getElem?_eq_some_iff.1 sm).1
     rw [sm]at e1
     cases e1
     have hj:j=0:=by cases j with | zero=>rfl | succ j=>simp [encStr]at e2
     subst hj
     have B2:(if b=b then(if 0+(i*1+0)<l.length then(l[0+(i*1+0)]?).map fun x=>Value.string ⟨⟨x⟩⟩else none)else B.M.G b (0+(i*1+0)))=some u:=eu
     rw [if_pos rfl,if_pos (by omega)]at B2
     simp [sm]at B2
     subst B2
     simp [encStr]at e2
     subst e2
     exact .str x
  ·exact .junk _
theorem Cg (hB:B.s = ⟨[],[]⟩) {tm:Tm} {s:St} {act oE:Act} {w:World} (h:Holds B nt tm s act w) {k:Nat} (Ew:oE.tmps.getD k Go.undef = .slice none 0 0∨∃ b q,oE.tmps.getD k Go.undef = .slice (some ⟨b,q,none⟩) 0 0) (hn:oE.tmps.size=nt) (hd:oE.defers = []) :
 Holds B nt [(k, .slice (.tok 0) 1 (([] : List aD).map encStr))] ⟨[],[some 0]⟩ oE w:=by
 obtain⟨M,e,r,hr,_,_⟩:=h
 let M':Map:=⟨B.M.G,B.M.loc,fun _=>none⟩
 refine⟨M',⟨⟨fun q o v hq=>hq,by simp [hB],fun o ho=>rfl,by rw [hB];exact Nat.zero_le _,fun t n' ht _=>by rw [hB]at ht;exact absurd ht (Nat.not_lt_zero _)⟩,fun q hq _ _=> ?_,fun o _ h2=>absurd h2 (Nat.not_lt_zero _),fun t q c z _ hb=>(by cases hb),fun q o dQ=>absurd rfl dQ,e.size,e.os,e.tape,e.output⟩,
  ⟨fun q o v hq=>r.comm q o v (e.le.G q o v hq),fun o ds ho=>by simp at ho,fun o ho=>absurd ho (Nat.not_lt_zero _),fun o o' ho=>absurd ho (Nat.not_lt_zero _),fun t n ht=> ?_,fun t q c z o _ _ ho=>absurd ho (Nat.not_lt_zero _),fun t t' q c z c' z' Gl kv h1 _=>by cases h1⟩,fun u=> ?_,hn,hd⟩
 ·exact e.kept q hq (fun o ho=>by rw [hB]at ho;exact absurd ho (Nat.not_lt_zero _)) (fun t c z kv=>by rw [hB]at kv;obtain⟨n,sv⟩:=kv;simp at sv)
 ·match t with
  | 0=>simp at ht;subst ht;exact .inl ⟨rfl,rfl⟩
  | t+1=>simp at ht
 ·simp only [Tm.get]
  split
  ·rename_i Oq
   subst Oq
   have lf : ∀ base,fw M' ⟨[],[some 0]⟩ (.tok 0) 1 0 base 0:=fun base=>⟨by simp,fun n sv=>by
    simp at sv
    subst sv
    exact⟨Nat.le_refl _,fun _=> .inl ⟨rfl,rfl,fun h=>by cases h⟩⟩⟩
   rcases Ew with h | ⟨b,q,h⟩
   ·rw [h];exact .gb _ _ 0 rfl (lf none)
   ·rw [h];exact .slice (.tok 0) 1 [] b q 0 (Nat.le_refl _) (by simp) (by simp) (by simp) (lf _)
  ·exact .junk _
theorem AS {α:Type} [Inhabited α] (enc:α→Value) (d:Array α) (c:Array Value) (j:Nat):(Sort.putCells enc 0 d c)[j]? = if j<d.size then(c[j]?).map fun _=>enc d[j]! else c[j]? :=by
 simp only [Sort.putCells,Array.getElem?_mapIdx]
 cases h:c[j]? with
 | none=>simp
 | some x=>by_cases hj:j<d.size <;> simp [hj]
theorem ym {w:World} {b n cap:Nat} {vs:Array Value} {T:TypeId} (cW:w.heap[b]? = some (.cells vs T (0,0))) (dE:vs.size=cap) (l:List aD) (hl:l.length≤cap) (os:Array Obj) :
 (∀ q,q≠b→q<w.heap.size→(Sort.grow (Sort.putRow Go.Proofs.encStr (Sort.ahead w n) b 0 l.toArray) os).heap[q]? = w.heap[q]?)∧
 (Sort.grow (Sort.putRow Go.Proofs.encStr (Sort.ahead w n) b 0 l.toArray) os).heap[b]? = some (.cells (Sort.putCells Go.Proofs.encStr 0 l.toArray vs) T (0,0))∧w.heap.size≤(Sort.grow (Sort.putRow Go.Proofs.encStr (Sort.ahead w n) b 0 l.toArray) os).heap.size∧
 (Sort.putCells Go.Proofs.encStr 0 l.toArray vs).size=cap∧∀ j (hj:j<l.length),(Sort.putCells Go.Proofs.encStr 0 l.toArray vs)[j]? = some (.string ⟨⟨l[j]⟩⟩):=by
 have hb:b<w.heap.size:=(Array.getElem?_eq_some_iff.1 cW).1
 refine⟨fun q hq hD=> ?_, ?_, ?_, ?_,fun j hj=> ?_⟩
 ·simp only [Sort.grow,Sort.putRow,Sort.mapBlock,Sort.ahead]
  rw [Array.getElem?_append_left (by simpa using hD),Array.getElem?_modify]
  simp [Ne.symm hq]
 ·simp only [Sort.grow,Sort.putRow,Sort.mapBlock,Sort.ahead]
  rw [Array.getElem?_append_left (by simpa using hb),Array.getElem?_modify]
  simp [cW,Sort.onCells]
 ·simp [Sort.grow,Sort.putRow,Sort.mapBlock,Sort.ahead]
 ·simp [Sort.putCells,dE]
 ·rw [AS]
  have h1:j<l.toArray.size:=by simpa using hj
  have h2:vs[j]? = some vs[j]:=Array.getElem?_eq_getElem (by omega)
  rw [if_pos h1,h2]
  simp [hj]
def iT (l:List aD):List aD:=l.mergeSort fun x y=>decide (x≤y)
theorem AT {act:Act} {b:Nat} {v:Value} {u:Nat} (h:u≠b):(act.put (some b) v).tmps.getD u Go.undef=act.tmps.getD u Go.undef:=by
 simp only [Act.put,Array.getD_eq_getD_getElem?]
 rw [Array.getElem?_setIfInBounds_ne (fun e=>h e.symm)]
theorem yn {act:Act} {b:Nat} {v:Value} (h:b<act.tmps.size):(act.put (some b) v).tmps.getD b Go.undef=v:=by
 simp only [Act.put,Array.getD_eq_getD_getElem?]
 simp [h]
theorem Sem.sort (hB:B.s = ⟨[],[]⟩) {a k b t:Nat} {l:List aD} {is:List AI} {Q:Exit→Tm→St→Prop} {tm:Tm} {s:St} (ZN:a≠k) (Ru:b≠k) (Kx:a≠b)
 (hk:tm.get k = .slice (.tok t) 1 (l.map encStr)) (ht:s.av[t]? = some (some l.length)) (hl:l.length<4611686018427387904)
 (h:fB Try.prog is (Q .normal) [(k, .slice (.tok 0) 1 ((iT l).map encStr))] ⟨[],[some l.length]⟩) :
 Sem Try.prog B nt (.run (.op (some a) none (.mv (.s k)):: .call (some b) none fO [.s a]::is)) Q tm s:=by
 refine Sem.On fun act w hh=> ?_
 have sg:(tm.put (some a) (tm.get k)).get k = .slice (.tok t) 1 (l.map encStr):=by rw [Tm.hO,if_neg (by simpa using ZN)];exact hk
 have AU:(tm.put (some a) (tm.get k)).get a = .slice (.tok t) 1 (l.map encStr):=by rw [Tm.hO,if_pos rfl];exact hk
 have wF:(iT l).length=l.length:=List.length_mergeSort l
 have hn:(act.put (some b) (.tuple #[])).tmps.size=nt:=by obtain⟨_,_,_,_,h1,_⟩:=hh;simpa [Act.put]using h1
 have hd:(act.put (some b) (.tuple #[])).defers = []:=by obtain⟨_,_,_,_,_,h1⟩:=hh;simpa [Act.put]using h1
 have dE:(act.tmps).size=nt:=by obtain⟨_,_,_,_,h1,_⟩:=hh;exact h1
 rcases yl hB hh ht AU with ⟨rfl,hv⟩ | ⟨b',cap,vs,T,hv,oc,cW,kM,qc,iM⟩
 ·rw [show iT [] = [] by simp [iT]]at h
  have call : ∀ p,act.tmps.getD a Go.undef = .slice p 0 0→Calls Try.prog fO #[act.tmps.getD a Go.undef] w fun e w'=>∃ v,e = .returned v∧∃ bg s',Holds B nt bg s' (act.put (some b) v) w'∧fB Try.prog is (Q .normal) bg s':=by
   intro p hp
   rw [hp]
   refine(Try.slices_Sort_string_none p 0 w).mono ?_
   rintro e w' ⟨rfl,rfl⟩
   refine⟨_,rfl,_,_,Cg hB hh (k:=k) ?_ hn hd,h⟩
   rw [AT (Ne.symm Ru)]
   exact hv k sg
  rcases hv a AU with h1 | ⟨b',q,h1⟩
  ·exact call _ h1
  ·exact call _ h1
 ·rw [hv a AU]
  have hD:b'<w.heap.size:=(Array.getElem?_eq_some_iff.1 cW).1
  refine(Try.slices_Sort_string b' 0 cap l w (fun j hj=> ?_) hD hl).mono ?_
  ·have GU:j<l.length:=by simpa using hj
   refine⟨?_,by simp [World.frozen?,cW]⟩
   rw [Nat.zero_add,gR cW,iM j GU]
   simp [GU]
  ·rintro e w' ⟨rfl,n,os,rfl⟩
   obtain⟨p1,p2,p3,p4,p5⟩:=ym (n:=n) cW kM (iT l) (by omega) os
   have hH:=AR hB hh (oE:=act.put (some b) (.tuple #[])) (l:=iT l) (k:=k) p4 qc (fun q hq=>p1 q (by omega) (by obtain⟨M,e,_⟩:=hh;exact Nat.lt_of_lt_of_le hq e.size)) p2 p3 rfl rfl rfl (by omega) p5 (by rw [AT (Ne.symm Ru),hv k sg,wF]) hn hd
   rw [wF]at hH
   exact⟨_,rfl,_,_,hH,h⟩
theorem BG (l:List aD):(Lib.compact l).length≤l.length:=by
 unfold Lib.compact Lib.compactUpTo
 rw [List.length_map]
 exact Nat.le_trans (List.length_filter_le _ _) (by simp)
theorem Sem.compact (hB:B.s = ⟨[],[]⟩) {a k b t:Nat} {l:List aD} {is:List AI} {Q:Exit→Tm→St→Prop} {tm:Tm} {s:St} (hbt:b<nt)
 (hk:tm.get k = .slice (.tok t) 1 (l.map encStr)) (ht:s.av[t]? = some (some l.length)) (hl:l.length<4611686018427387904)
 (h:fB Try.prog is (Q .normal) [(b, .slice (.tok 0) 1 ((Lib.compact l).map encStr))] ⟨[],[some (Lib.compact l).length]⟩) :
 Sem Try.prog B nt (.run (.op (some a) none (.mv (.s k)):: .call (some b) none fX [.s a]::is)) Q tm s:=by
 refine Sem.On fun act w hh=> ?_
 have AU:(tm.put (some a) (tm.get k)).get a = .slice (.tok t) 1 (l.map encStr):=by rw [Tm.hO,if_pos rfl];exact hk
 have dE:(act.tmps).size=nt:=by obtain⟨_,_,_,_,h1,_⟩:=hh;exact h1
 have hn : ∀ v,(act.put (some b) v).tmps.size=nt:=fun v=>by simpa [Act.put]using dE
 have hd : ∀ v,(act.put (some b) v).defers = []:=by obtain⟨_,_,_,_,_,h1⟩:=hh;intro v;simpa [Act.put]using h1
 rcases yl hB hh ht AU with ⟨rfl,hv⟩ | ⟨b',cap,vs,T,hv,oc,cW,kM,qc,iM⟩
 ·rw [show Lib.compact ([] : List aD) = []from rfl]at h
  have call : ∀ p,act.tmps.getD a Go.undef = .slice p 0 0→(p=none∨∃ b q,p=some ⟨b,q,none⟩)→Calls Try.prog fX #[act.tmps.getD a Go.undef] w fun e w'=>∃ v,e = .returned v∧∃ bg s',Holds B nt bg s' (act.put (some b) v) w'∧fB Try.prog is (Q .normal) bg s':=by
   intro p hp hq
   rw [hp]
   refine(Try.slices_Compact_string_empty p 0 w).mono ?_
   rintro e w' ⟨rfl,rfl⟩
   refine⟨_,rfl,_,_,Cg hB hh (k:=b) ?_ (hn _) (hd _),h⟩
   rw [yn (by omega)]
   rcases hq with rfl | ⟨x,y,rfl⟩
   ·exact .inl rfl
   ·exact .inr ⟨x,y,rfl⟩
  rcases hv a AU with h1 | ⟨b',q,h1⟩
  ·exact call _ h1 (.inl rfl)
  ·exact call _ h1 (.inr ⟨b',q,rfl⟩)
 ·rw [hv a AU]
  have zG:(Lib.compact l).length≤l.length:=BG l
  refine(Try.slices_Compact_string b' 0 cap l w (fun j hj=> ?_) (by omega) oc).mono ?_
  ·have GU:j<l.length:=by simpa using hj
   refine⟨?_,by simp [World.frozen?,cW]⟩
   rw [Nat.zero_add,gR cW,iM j GU]
   simp [GU]
  ·rintro e w' ⟨rfl,q,rfl⟩
   obtain⟨p1,p2,p3,p4,p5⟩:=ym (n:=q) cW kM (Lib.compact l++List.replicate (l.length - (Lib.compact l).length) []) (by simp;omega) #[]
   rw [Sort.grow_empty]at p1 p2 p3
   have hH:=AR hB hh (oE:=act.put (some b) (.slice (some ⟨b',0,none⟩) (Lib.compact l).length cap)) (l:=Lib.compact l) (k:=b) p4 qc (fun q hq=>p1 q (by omega) (by obtain⟨M,e,_⟩:=hh;exact Nat.lt_of_lt_of_le hq e.size)) p2 p3 rfl rfl rfl (by omega)
    (fun j hj=>by
     have:=p5 j (by simp;omega)
     rw [List.getElem_append_left hj]at this
     exact this) (yn (by omega)) (hn _) (hd _)
   exact⟨_,rfl,_,_,hH,h⟩
end
end Go.Abs

/-! SrtP -/

namespace Go.Abs
theorem wG {a b:UInt8} : a<b↔a.toNat<b.toNat:=UInt8.lt_iff_toNat_lt
theorem rl : ∀ a:aD,bytesLess a a=false
 | []=>rfl
 | x::a=>by
  show Go.Op.bytesLess (x::a) (x::a)=false
  have h:=rl a
  have h:Go.Op.bytesLess a a=false:=h
  simp [Go.Op.bytesLess,h]
theorem rm : ∀ a b:aD,bytesLess a b=true∨a=b∨bytesLess b a=true
 | [],[]=> .inr (.inl rfl)
 | [],y::b=> .inl rfl
 | x::a,[]=> .inr (.inr rfl)
 | x::a,y::b=>by
  show Go.Op.bytesLess (x::a) (y::b)=true∨_∨Go.Op.bytesLess (y::b) (x::a)=true
  have h:Go.Op.bytesLess a b=true∨a=b∨Go.Op.bytesLess b a=true:=rm a b
  simp only [Go.Op.bytesLess,Bool.or_eq_true,Bool.and_eq_true,decide_eq_true_eq,beq_iff_eq,List.cons.injEq]
  by_cases e:x=y
  ·subst e
   rcases h with h | h | h
   ·exact .inl (.inr ⟨rfl,h⟩)
   ·exact .inr (.inl ⟨rfl,h⟩)
   ·exact .inr (.inr (.inr ⟨rfl,h⟩))
  ·have:x.toNat≠y.toNat:=fun h=>e (UInt8.toNat_inj.1 h)
   rcases Nat.lt_or_gt_of_ne this with h | h
   ·exact .inl (.inl (wG.2 h))
   ·exact .inr (.inr (.inl (wG.2 h)))
theorem wH : ∀ a b c:aD,bytesLess a b=true→bytesLess b c=true→bytesLess a c=true
 | a,b,[],h1,h2=>by cases b <;> cases h2
 | a,[],z::c,h1,h2=>by cases a <;> cases h1
 | [],y::b,z::c,h1,h2=>rfl
 | x::a,y::b,z::c,h1,h2=>by
  have h1:Go.Op.bytesLess (x::a) (y::b)=true:=h1
  have h2:Go.Op.bytesLess (y::b) (z::c)=true:=h2
  show Go.Op.bytesLess (x::a) (z::c)=true
  simp only [Go.Op.bytesLess,Bool.or_eq_true,Bool.and_eq_true,decide_eq_true_eq,beq_iff_eq]at h1 h2 ⊢
  rcases h1 with e1 | ⟨i1,e1⟩
  ·rcases h2 with e2 | ⟨i2,e2⟩
   ·exact .inl (wG.2 (Nat.lt_trans (wG.1 e1) (wG.1 e2)))
   ·exact .inl (i2 ▸ e1)
  ·rcases h2 with e2 | ⟨i2,e2⟩
   ·exact .inl (i1 ▸ e2)
   ·exact .inr ⟨i1.trans i2,wH a b c e1 e2⟩
def tJ (l:List aD):Prop:=l.Pairwise fun a b=>bytesLess a b=true
theorem qL : ∀ {a b:List aD},tJ a→tJ b→(∀ x,x∈a↔x∈b)→a=b
 | [],[],_,_,_=>rfl
 | [],y::b,_,_,h=>absurd ((h y).2 List.mem_cons_self) (by simp)
 | x::a,[],_,_,h=>absurd ((h x).1 List.mem_cons_self) (by simp)
 | x::a,y::b,h1,h2,h=>by
  obtain⟨g1,g2⟩:=List.pairwise_cons.1 h1
  obtain⟨g3,g4⟩:=List.pairwise_cons.1 h2
  have e:x=y:=by
   rcases List.mem_cons.1 ((h x).1 List.mem_cons_self)with e | m
   ·exact e
   ·rcases List.mem_cons.1 ((h y).2 List.mem_cons_self)with e | m'
    ·exact e.symm
    ·have:=wH _ _ _ (g3 x m) (g1 y m');rw [rl]at this;cases this
  subst e
  rw [qL g2 g4 fun z=> ?_]
  constructor
  ·intro m
   rcases List.mem_cons.1 ((h z).1 (List.mem_cons_of_mem _ m))with e | m'
   ·subst e;have:=g1 z m;rw [rl]at this;cases this
   ·exact m'
  ·intro m
   rcases List.mem_cons.1 ((h z).2 (List.mem_cons_of_mem _ m))with e | m'
   ·subst e;have:=g3 z m;rw [rl]at this;cases this
   ·exact m'
theorem oX (out:List aD) : ∀ (l:List aD) (c:aD) (a:Bool),
 let q:=jB out l c a
 (q.2=false↔a=false∧∀ x∈l,x∈out)∧(q.2=true→((a=true∧q.1=c)∨(q.1∈l∧q.1∉out))∧(a=true→bytesLess c q.1=false)∧∀ x∈l,x∉out→bytesLess x q.1=false)
 | [],c,a=>by
  simp only [jB]
  refine⟨by simp,fun h=>⟨.inl ⟨h,by trivial⟩,fun _=>rl c,fun x m=>(by cases m)⟩⟩
 | s::l,c,a=>by
  simp only [jB]
  by_cases h1:eg out s=true
  ·have m:=(kW _ _).1 h1
   simp only [h1,Bool.not_true,Bool.false_and,Bool.false_eq_true,if_false]
   obtain⟨k1,k2⟩:=oX out l c a
   refine⟨k1.trans ⟨fun h=>⟨h.1,fun x hx=> ?_⟩,fun h=>⟨h.1,fun x hx=>h.2 x (List.mem_cons_of_mem _ hx)⟩⟩,fun h=> ?_⟩
   ·rcases List.mem_cons.1 hx with rfl | hx
    ·exact m
    ·exact h.2 x hx
   ·obtain⟨g1,g2,g3⟩:=k2 h
    refine⟨g1.imp_right fun h=>⟨List.mem_cons_of_mem _ h.1,h.2⟩,g2,fun x hx hn=> ?_⟩
    rcases List.mem_cons.1 hx with rfl | hx
    ·exact absurd m hn
    ·exact g3 x hx hn
  ·have m:s∉out:=fun m=>h1 ((kW _ _).2 m)
   have mV:eg out s=false:=by simpa using h1
   by_cases h2:(!a || bytesLess s c)=true
   ·simp only [mV,h2,Bool.not_false,Bool.and_self,if_true]
    obtain⟨k1,k2⟩:=oX out l s true
    refine⟨⟨fun h=>absurd (k1.1 h).1 (by simp),fun h=>absurd (h.2 s List.mem_cons_self) m⟩,fun h=> ?_⟩
    obtain⟨g1,g2,g3⟩:=k2 h
    have g4:=g2 rfl
    refine⟨.inr ?_,fun ha=> ?_,fun x hx hn=> ?_⟩
    ·rcases g1 with ⟨_,e⟩ | g1
     ·rw [e];exact⟨List.mem_cons_self,m⟩
     ·exact⟨List.mem_cons_of_mem _ g1.1,g1.2⟩
    ·have h3:bytesLess s c=true:=by simpa [ha]using h2
     cases hh:bytesLess c (jB out l s true).1
     ·rfl
     ·have:=wH _ _ _ h3 hh;rw [g4]at this;cases this
    ·rcases List.mem_cons.1 hx with rfl | hx
     ·exact g4
     ·exact g3 x hx hn
   ·have qZ:(!a || bytesLess s c)=false:=by simpa using h2
    have ha:a=true:=by cases a <;> simp_all
    have h3:bytesLess s c=false:=by cases a <;> simp_all
    simp only [mV,qZ,Bool.not_false,Bool.and_false,Bool.false_eq_true,if_false]
    obtain⟨k1,k2⟩:=oX out l c a
    refine⟨⟨fun h=>absurd (k1.1 h).1 (by simp [ha]),fun h=>absurd h.1 (by simp [ha])⟩,fun h=> ?_⟩
    obtain⟨g1,g2,g3⟩:=k2 h
    refine⟨g1.imp_right fun h=>⟨List.mem_cons_of_mem _ h.1,h.2⟩,g2,fun x hx hn=> ?_⟩
    rcases List.mem_cons.1 hx with rfl | hx
    ·cases hh:bytesLess x (jB out l c a).1
     ·rfl
     ·have g4:=g2 ha
      rcases rm x c with e | e | e
      ·rw [h3]at e;cases e
      ·subst e;rw [g4]at hh;cases hh
      ·have:=wH _ _ _ e hh;rw [g4]at this;cases this
    ·exact g3 x hx hn
theorem qM (l:List aD) : ∀ (n:Nat) (out:List aD),tJ out→(∀ x∈out,x∈l)→(∀ x∈out,∀ y∈l,y∉out→bytesLess x y=true)→
 tJ (lb l n out)∧(∀ x∈lb l n out,x∈l)∧(∀ x∈out,x∈lb l n out)∧((∀ x∈l,x∈lb l n out)∨(lb l n out).length=out.length+n)
 | 0,out,h1,h2,h3=>⟨h1,h2,fun x m=>m, .inr rfl⟩
 | n+1,out,h1,h2,h3=>by
  simp only [lb,GQ]
  obtain⟨k1,k2⟩:=oX out l [] false
  cases hq:(jB out l [] false).2
  ·simp only [Bool.false_eq_true,if_false]
   obtain⟨g1,g2,g3,g4⟩:=qM l n out h1 h2 h3
   exact⟨g1,g2,g3, .inl fun x m=>g3 x ((k1.1 hq).2 x m)⟩
  ·simp only [if_true]
   obtain⟨g1,_,g3⟩:=k2 hq
   have g1:(jB out l [] false).1∈l∧(jB out l [] false).1∉out:=by
    rcases g1 with ⟨h,_⟩ | g1
    ·cases h
    ·exact g1
   generalize (jB out l [] false).1=c at g1 g3
   obtain⟨r1,r2,r3,r4⟩:=qM l n (out++ [c])
    (by
     refine List.pairwise_append.2 ⟨h1,by simp,fun x hx y hy=> ?_⟩
     have:y=c:=by simpa using hy
     subst this
     exact h3 x hx y g1.1 g1.2)
    (fun x hx=>by
     rcases List.mem_append.1 hx with hx | hx
     ·exact h2 x hx
     ·have:x=c:=by simpa using hx
      subst this;exact g1.1)
    (fun x hx y hy hn=>by
     have Rv:y∉out:=fun m=>hn (List.mem_append_left _ m)
     have ZO:y≠c:=fun e=>hn (List.mem_append_right _ (by simp [e]))
     rcases List.mem_append.1 hx with hx | hx
     ·exact h3 x hx y hy Rv
     ·have:x=c:=by simpa using hx
      subst this
      rcases rm x y with h | h | h
      ·exact h
      ·exact absurd h.symm ZO
      ·rw [g3 y hy Rv]at h;cases h)
   refine⟨r1,r2,fun x m=>r3 x (List.mem_append_left _ m),r4.imp_right fun h=> ?_⟩
   rw [h];simp;omega
theorem ql : ∀ (a l:List aD),a.Nodup→(∀ x∈a,x∈l)→a.length≤l.length
 | [],l,_,_=>Nat.zero_le _
 | x::a,l,h,hm=>by
  obtain⟨h1,h2⟩:=List.nodup_cons.1 h
  have m:=hm x List.mem_cons_self
  have:=ql a (l.erase x) h2 fun y hy=>(List.mem_erase_of_ne (fun e=>h1 (by rw [← e];exact hy))).2 (hm y (List.mem_cons_of_mem _ hy))
  rw [List.length_erase_of_mem m]at this
  have:0<l.length:=List.length_pos_of_mem m
  simp only [List.length_cons];omega
theorem oY {l:List aD} (h:tJ l):l.Nodup:=h.imp fun {a b} h e=>by subst e;rw [rl]at h;cases h
theorem iU (l:List aD):tJ (gn l)∧∀ x,x∈gn l↔x∈l:=by
 obtain⟨h1,h2,h3,h4⟩:=qM l l.length [] List.Pairwise.nil (fun x m=>(by cases m)) (fun x m=>(by cases m))
 refine⟨h1,fun x=>⟨h2 x,fun m=> ?_⟩⟩
 rcases h4 with h4 | h4
 ·exact h4 x m
 ·refine Classical.byContradiction fun hn=> ?_
  have:=ql (x::lb l l.length []) l (List.nodup_cons.2 ⟨hn,oY h1⟩) fun y hy=>by
   rcases List.mem_cons.1 hy with rfl | hy
   ·exact m
   ·exact h2 y hy
  simp only [List.length_cons,h4,List.length_nil]at this
  omega
theorem BI (zs:List aD) (hs:zs.Pairwise fun a b=>bytesLess b a=false) : ∀ m,m≤zs.length→
 tJ (Lib.compactUpTo zs.toArray m)∧(∀ x,x∈Lib.compactUpTo zs.toArray m↔x∈zs.take m):=by
 intro m
 induction m with
 | zero=>intro _;exact⟨by simp [Lib.compactUpTo,tJ],fun x=>by simp [Lib.compactUpTo]⟩
 | succ m ih=>
  intro hm
  obtain⟨h1,h2⟩:=ih (by omega)
  have hz:zs[m]? = some zs[m]:=List.getElem?_eq_getElem (by omega)
  have e1:zs.toArray[m]! = zs[m]:=by simp [hm,Nat.lt_of_succ_le hm]
  have et:zs.take (m+1)=zs.take m++ [zs[m]]:=by rw [List.take_add_one,hz];rfl
  rw [Lib.compactUpTo_succ,e1,et]
  by_cases hk:Lib.keeps zs.toArray m=true
  ·rw [if_pos hk]
   refine⟨List.pairwise_append.2 ⟨h1,by simp,fun x hx y hy=> ?_⟩,fun x=>by rw [List.mem_append,List.mem_append,h2]⟩
   have hy:y=zs[m]:=by simpa using hy
   subst hy
   have hx:=(h2 x).1 hx
   simp only [Lib.keeps,decide_eq_true_eq]at hk
   rcases hk with rfl | hk
   ·simp at hx
   ·have AG:m - 1<zs.length:=by omega
    have e2:zs.toArray[m - 1]! = zs[m - 1]:=by simp [AG]
    rw [e1,e2]at hk
    have h0:0<m:=by
     cases m with
     | zero=>simp at hx
     | succ m=>omega
    have hle : ∀ i j (hi:i<zs.length) (hj:j<zs.length),i<j→bytesLess zs[j] zs[i] = false:=fun i j hi hj JP=>List.pairwise_iff_getElem.1 hs i j hi hj JP
    have g1:bytesLess zs[m] zs[m - 1] = false:=hle (m - 1) m AG (by omega) (by omega)
    have g2:bytesLess zs[m - 1] zs[m] = true:=by
     rcases rm zs[m - 1] zs[m]with h | h | h
     ·exact h
     ·exact absurd h.symm hk
     ·rw [g1]at h;cases h
    obtain⟨i,hi,rfl⟩:=List.mem_iff_getElem.1 hx
    rw [List.length_take]at hi
    rw [List.getElem_take]
    by_cases uC:i=m - 1
    ·subst uC;exact g2
    ·have g3:=hle i (m - 1) (by omega) AG (by omega)
     rcases rm zs[i] zs[m - 1]with h | h | h
     ·exact wH _ _ _ h g2
     ·rw [h];exact g2
     ·rw [g3]at h;cases h
  ·rw [if_neg hk]
   simp only [List.append_nil]
   refine⟨h1,fun x=> ?_⟩
   rw [h2]
   simp only [Lib.keeps,decide_eq_true_eq,not_or,ne_eq,Decidable.not_not]at hk
   obtain⟨k1,k2⟩:=hk
   have AG:m - 1<zs.length:=by omega
   have e2:zs.toArray[m - 1]! = zs[m - 1]:=by simp [AG]
   rw [e1,e2]at k2
   simp only [List.mem_append,List.mem_singleton]
   constructor
   ·exact .inl
   ·rintro(h | rfl)
    ·exact h
    ·rw [k2]
     exact List.mem_iff_getElem.2 ⟨m - 1,by rw [List.length_take];omega,by rw [List.getElem_take]⟩
theorem yo (l:List aD):(iT l).Pairwise fun a b=>bytesLess b a=false:=by
 have h:=List.pairwise_mergeSort (le:=fun x y:aD=>decide (x≤y)) (fun a b c h1 h2=> ?_) (fun a b=> ?_) l
 ·refine h.imp fun {a b} h=> ?_
  rw [decide_eq_true_eq]at h
  show Go.Op.bytesLess b a=false
  rw [Go.Proofs.bytesLess_eq]
  simpa using h
 ·rw [decide_eq_true_eq]at h1 h2 ⊢
  exact List.le_trans h1 h2
 ·have:=List.le_total a b
  simpa using this
theorem tL (l:List aD):Lib.compact (iT l)=gn l:=by
 obtain⟨h1,h2⟩:=BI (iT l) (yo l) (iT l).length (Nat.le_refl _)
 obtain⟨h3,h4⟩:=iU l
 refine qL h1 h3 fun x=> ?_
 rw [h4]
 refine(h2 x).trans ?_
 rw [List.take_length]
 exact(List.mergeSort_perm _ _).mem_iff
end Go.Abs

/-! Tc1 -/

namespace Go.Abs
set_option maxRecDepth 8000
open Go.Proofs
def iH:List Sm→List aD
 | []=> []
 | v::l=>if v.kind==4 then v.proc::iH l else iH l
theorem uP : ∀ l:List Sm,(iH l).length≤l.length
 | []=>Nat.le_refl _
 | v::l=>by
  simp only [iH]
  have:=uP l
  split <;> simp <;> omega
def Pc.calls (f:Pc):List aD:=gn (iH (Sm.e9 f.body))
theorem tM {name:aD} : ∀ {l:List Pc} {k:Nat} {f:Pc},gO name l=some f→∃ j,l[j]? = some f∧jb (fun f:Pc=>f.name==name) (k:Int) l=((k+j:Nat):Int)
 | g::l,k,f,h=>by
  simp only [gO]at h
  cases e:(g.name==name)
  ·rw [e]at h
   simp only [Bool.false_eq_true,if_false]at h
   obtain⟨j,h1,h2⟩:=tM (k:=k+1) h
   refine⟨j+1,by simpa using h1, ?_⟩
   simp only [jb,e,Bool.false_eq_true,if_false]
   rw [show((k:Int)+1)=((k+1:Nat):Int)from rfl,h2]
   congr 1;omega
  ·rw [e]at h
   simp only [if_true,Option.some.injEq]at h
   exact⟨0,by simpa using h,by simp [jb,e]⟩
theorem LS {p:Pg} (h:p.kY) {name:aD} {f:Pc} (hf:p.find name=some f) (s:St):aI Try.prog om [.cL (ix p) 0, .str name] s (.slice .shared 1 (f.calls.map encStr)) s:=by
 refine aI.pure ?_ (by simp [D.bI,D.ok,xm]) (by simp only [D.ok,Tag.ok,fi];rfl) s
 obtain⟨qW,qf,uL⟩:=h.procs
 obtain⟨j,hj,si⟩:=tM (k:=0) hf
 have si:p.at name=((j:Nat):Int):=by unfold Pg.at;simpa using si
 have yd:=fun s=>Gj (p:=p) (by omega) name s
 rw [si]at yd
 obtain⟨it,ri,GM⟩:=IZ hj (by omega)
 have Oi:it.length≤900000:=by
  have e:=congrArg List.length ri
  obtain⟨a,b,e',_,_,e3,e4⟩:=(lY p).2 j f hj
  have e5:=lZ p
  have e6:=congrArg List.length e3
  rw [e4]at e5
  simp only [List.length_map,List.length_append]at e e5 e6
  omega
 unfold S0
 obtain⟨fn,sx,AP⟩:=wc
 refine aI.intro ⟨fn,sx,AP⟩ (Nat.le_of_ble_eq_true rfl) fun B hB=> ?_
 generalize hQ:ni (⟨[],[]⟩:St).au.length (⟨[],[]⟩:St).av.length _ _ (⟨[],[]⟩:St)=Q
 have⟨hD,hJ,hP,hY⟩:=cf
 refine Sem.og ?_
 repeat' (first
 | simp only [go_sem,hD,hJ,hP,hY]
 | (with_reducible refine aJ hQ ?_;simp only [az,aB,Option.some.injEq,exists_eq_left',go_sem,hD,hJ,hP,hY];repeat' (first | exact Ok.out | with_reducible refine aO ?_ ?_ | (simp;done))))
 refine Sem.og ?_
 repeat' (first
 | simp only [go_sem,hD,hJ,hP,hY]
 | (with_reducible refine aJ hQ ?_;simp only [az,aB,Option.some.injEq,exists_eq_left',go_sem,hD,hJ,hP,hY];repeat' (first | exact Ok.out | with_reducible refine aO ?_ ?_ | (simp;done))))
 refine Sem.og ?_
 repeat' (first
 | simp only [go_sem,hD,hJ,hP,hY]
 | (with_reducible refine CU (yd _) ?_)
 | (with_reducible refine CU (GM _) ?_)
 | (with_reducible refine aJ hQ ?_;simp only [az,aB,Option.some.injEq,exists_eq_left',go_sem,hD,hJ,hP,hY];repeat' (first | exact Ok.out | with_reducible refine aO ?_ ?_ | (simp;done))))
 refine bp.qB 5 1 rfl ?_
 simp only [go_sem,hD,hJ,hP,hY]
 obtain⟨R,hR⟩ : ∃ R,R=iH (Sm.e9 f.body):=⟨_,rfl⟩
 have Rw:R.length≤900000:=by rw [hR, ← ri];have:=uP (it.map Im.s);rw [List.length_map]at this;omega
 refine dF 0 1 (bp.ind (ι:=List Im×Nat×List aD×Nat) (fun i=>it.drop i.2.1=i.1∧i.2.2.1++iH (i.1.map Im.s)=R∧i.2.2.2=i.2.2.1.length) (fun i=>i.1.length)
  (fun i=> [(5, .slice (.tok 0) 1 (i.2.2.1.map encStr)),(12, .slice .shared 17 (it.map dW)),(13, .int .i64 (it.length:Int)),(14, .int .i64 (i.2.1:Int))]) (fun i=>⟨[],[some i.2.2.2]⟩) ?_ (it,0,[],0) ⟨rfl,by rw [hR,ri];rfl,rfl⟩)
 rintro⟨rest,k,out,n⟩ ⟨h1,h2,h3⟩ IH
 dsimp only at h1 h2 h3
 subst h3
 have ly:out.length≤900000:=by have:=congrArg List.length h2;rw [List.length_append]at this;omega
 cases rest with
 | cons a rest=>
  obtain⟨hJ,g2,hD,g4⟩:=drop_cons h1
  have bB:k<4611686018427387904:=by omega
  have hP:(out.length+1)*17≤bH:=by unfold bH;omega
  simp only [List.map_cons,iH]at h2
  rcases Bool.eq_false_or_eq_true (a.s.kind==4)with c1 | c1
  ·simp only [c1,if_true]at h2
   repeat' (first
 | simp only [go_sem,hD,hJ,hP,hY,c1]
 | (with_reducible refine aJ hQ ?_;simp only [az,aB,Option.some.injEq,exists_eq_left',go_sem,hD,hJ,hP,hY];repeat' (first | exact Ok.out | with_reducible refine aO ?_ ?_ | (simp;done))))
   refine dA 0 1 ?_ ?_ (IH (rest,k+1,out++ [a.s.proc],out.length+1) ⟨g2,by rw [← h2];simp,by simp⟩ (Nat.lt_succ_self _))
   ·(simp only [go_sem,hD,hJ,hP,hY,aH bB,List.map_append,List.map_cons,List.map_nil,encStr];try exact bw)
   ·(simp only [go_sem,hD,hJ,hP,hY,aH bB,List.map_append,List.map_cons,List.map_nil,encStr];try exact bw)
  ·simp only [c1,Bool.false_eq_true,if_false]at h2
   repeat' (first
 | simp only [go_sem,hD,hJ,hP,hY,c1]
 | (with_reducible refine aJ hQ ?_;simp only [az,aB,Option.some.injEq,exists_eq_left',go_sem,hD,hJ,hP,hY];repeat' (first | exact Ok.out | with_reducible refine aO ?_ ?_ | (simp;done))))
   refine dA 0 1 ?_ ?_ (IH (rest,k+1,out,_) ⟨g2,h2,rfl⟩ (Nat.lt_succ_self _))
   ·(simp only [go_sem,hD,hJ,hP,hY,aH bB];try exact bw)
   ·(simp only [go_sem,hD,hJ,hP,hY,aH bB];try exact bw)
 | nil=>
  have hD:=drop_nil h1
  simp only [List.map_nil,iH,List.append_nil]at h2
  subst h2
  have wF:(iT out).length=out.length:=List.length_mergeSort out
  repeat' (first
 | simp only [go_sem,hD,hJ,hP,hY]
 | (with_reducible refine aJ hQ ?_;simp only [az,aB,Option.some.injEq,exists_eq_left',go_sem,hD,hJ,hP,hY];repeat' (first | exact Ok.out | with_reducible refine aO ?_ ?_ | (simp;done))))
  refine Sem.seq (Sem.sort (k:=5) (t:=0) (l:=out) hB (by decide) (by decide) (by decide) rfl rfl (by omega) ?_)
  show Sem _ _ _ _ _ _ _
  refine Sem.seq (Sem.compact (k:=5) (t:=0) (l:=iT out) hB (by decide) rfl (by rw [wF];rfl) (by rw [wF];omega) ?_)
  rw [tL]
  have Te:f.calls=gn out:=by unfold Pc.calls;rw [hR]
  rw [Te]at hQ
  refine gq (ac:= .ret) (Q:=Q) (tm:= [(32, .slice (.tok 0) 1 ((gn out).map encStr)),(4, .slice (.tok 0) 1 ((gn out).map encStr))]) (s:=⟨[],[some (gn out).length]⟩) ?_
  repeat' (first
 | simp only [go_sem,hD,hJ,hP,hY]
 | (with_reducible refine aJ hQ ?_;simp only [az,aB,Option.some.injEq,exists_eq_left',go_sem,hD,hJ,hP,hY];repeat' (first | exact Ok.out | with_reducible refine aO ?_ ?_ | (simp;done))))
end Go.Abs

/-! Tc2 -/

namespace Go.Abs
open Go.Proofs
theorem yp {name:aD} : ∀ {l:List Pc},name∈l.map (·.name)→∃ f,gO name l=some f
 | f::l,h=>by
  simp only [gO]
  cases e:(f.name==name)
  ·simp only [Bool.false_eq_true,if_false]
   refine yp ?_
   rcases List.mem_cons.1 h with h | h
   ·rw [h]at e;simp at e
   ·exact h
  ·exact⟨f,rfl⟩
theorem yq {p:Pg} {f:Pc} {procs:List aD} : ∀ {l:List Sm},tG p f procs l=none→∀ v∈l,v.known p f procs=true
 | v::l,h,w,m=>by
  simp only [tG]at h
  split at h
  ·rename_i e
   rcases List.mem_cons.1 m with rfl | m
   ·exact e
   ·exact yq h w m
  ·cases h
theorem yr {p:Pg} {procs:List aD} : ∀ {l:List Pc},((pD p procs l).1==0)=true→∀ f∈l,eR (p.globals++f.own)=false∧∀ v∈Sm.e9 f.body,v.known p f procs=true
 | g::l,h,f,m=>by
  simp only [pD]at h
  split at h
  ·cases h
  ·rename_i e
   split at h
   ·cases h
   ·rename_i e2
    rcases List.mem_cons.1 m with rfl | m
    ·exact⟨by simpa using e,yq e2⟩
    ·exact yr h f m
theorem AV {p:Pg} (h:(p.scope.1==0)=true):eR p.globals=false∧eR p.pn=false∧p.rj=false∧∀ f∈p.procs,eR (p.globals++f.own)=false∧∀ v∈Sm.e9 f.body,v.known p f p.pn=true:=by
 unfold Pg.scope at h
 split at h
 ·split at h
  ·cases h
  ·rename_i e
   simp only [Bool.or_eq_true,not_or,Bool.not_eq_true]at e
   exact⟨e.1,e.2.1,e.2.2,yr h⟩
 ·cases h
theorem qN {x:aD} : ∀ {l:List Sm},x∈iH l↔∃ v∈l,v.kind=4∧v.proc=x
 | []=>by simp [iH]
 | v::l=>by
  simp only [iH]
  cases e:(v.kind==4)
  ·have:v.kind≠4:=by simpa using e
   simp [this,qN (l:=l)]
  ·have:v.kind=4:=by simpa using e
   simp only [if_true,List.mem_cons,qN (l:=l),exists_eq_or_imp,this,true_and]
   constructor
   ·rintro(h | h)
    ·exact .inl h.symm
    ·exact .inr h
   ·rintro(h | h)
    ·exact .inl h.symm
    ·exact .inr h
theorem GV {f:Pc} {x:aD} : x∈f.calls↔∃ v∈Sm.e9 f.body,v.kind=4∧v.proc=x:=by
 unfold Pc.calls;rw [(iU _).2,qN]
theorem uQ {p:Pg} (h:(p.scope.1==0)=true) {f:Pc} (hf:f∈p.procs) {x:aD} (m:x∈f.calls) : ∃ g,p.find x=some g:=by
 obtain⟨v,hv,h4,rfl⟩:=GV.1 m
 have hk:=((AV h).2.2.2 f hf).2 v hv
 simp only [Sm.known,h4,Bool.and_eq_true,Bool.or_eq_true]at hk
 rcases hk.2 with h | ⟨_,h⟩
 ·simp at h
 ·exact yp ((kW _ _).1 h)
def wI (p:Pg) (x:aD):List aD:=match p.find x with | some f=>f.calls | none=> []
def vq (out:List aD):List aD→List aD
 | []=>out
 | x::l=>vq (ug out x) l
def qm (p:Pg):Nat→Nat→List aD→List aD
 | 0,_,out=>out
 | n+1,i,out=>match out[i]? with
  | some x=>qm p n (i+1) (vq out (wI p x))
  | none=>out
def Pg.work (p:Pg) (name:aD):List aD:=qm p (p.procs.length+1) 0 [name]
def Good (p:Pg) (out:List aD):Prop:=out.Nodup∧∀ x∈out,∃ f,p.find x=some f
theorem Good.len {p:Pg} {out:List aD} (h:Good p out):out.length≤p.procs.length:=by
 have:=ql out p.pn h.1 fun x m=>by
  obtain⟨f,hf⟩:=h.2 x m
  obtain⟨h1,h2⟩:=nu hf
  rw [← h2];exact List.mem_map_of_mem h1
 simpa [Pg.pn]using this
theorem Good.Rx {p:Pg} {out:List aD} (h:Good p out) {x:aD} (hx : ∃ f,p.find x=some f):Good p (ug out x):=by
 unfold ug
 split
 ·exact h
 ·rename_i e
  have:x∉out:=fun m=>e ((kW _ _).2 m)
  refine⟨List.nodup_append.2 ⟨h.1,by simp,fun a ha b hb e'=> ?_⟩,fun y hy=> ?_⟩
  ·have ZP:b=x:=by simpa using hb
   rw [e',ZP]at ha;exact this ha
  ·rcases List.mem_append.1 hy with hy | hy
   ·exact h.2 y hy
   ·have:y=x:=by simpa using hy
    subst this;exact hx
theorem Good.add {p:Pg} : ∀ {l out:List aD},Good p out→(∀ x∈l,∃ f,p.find x=some f)→Good p (vq out l)
 | [],out,h,_=>h
 | x::l,out,h,hx=>Good.add (l:=l) (out:=ug out x) (Good.Rx h (hx x List.mem_cons_self)) fun y m=>hx y (List.mem_cons_of_mem _ m)
end Go.Abs

/-! Tc3 -/

namespace Go.Abs
open Go.Proofs
def tgB:Bool→Tag
 | true=> .tok 0
 | false=> .full
def tkB:Bool→Nat→List (Option Nat)
 | true,n=> [some n]
 | false,_=> []
end Go.Abs

/-! Bsl -/

namespace Go.Abs
def rT:AI→AI
 | .op d g (.dc z k n ps)=> .op d g (.o4 z k n ps)
 | a=>a
section
variable {P:Program}
theorem BJ {nt:Nat} {ops:Array Oper} {i:Nat} {o:Oper} {ai:AI} (hi:ops[i]? = some o) (hc:cI P nt ops o=some ai)
 {M:Map} {s:St} {w:World} {tm:Tm} {act:Act} (r:Rel M s w) (iu:Laid M s w) (ht:iL M s tm act.tmps) {K':Tm→St→Prop} (h:fB P [rT ai] K' tm s)
 {K:Act→World→Prop} {Q:Exit→Act→World→Prop}
 (hK : ∀ d v s1 w1 M1,K' (tm.put ai.dst d) s1→Ext M s w M1 s1 w1→Rel M1 s1 w1→RD M1 s1 d v→K (act.put o.dst v) w1):wpOp P ops Q i K act w:=by
 by_cases hb : ∃ d g z k n ps,ai = .op d g (.dc z k n ps)
 ·obtain⟨d0,g0,z,k,n,ps,rfl⟩:=hb
  obtain⟨g,hg,_,hb⟩:=td hc
  rw [nT hb]at hK
  simp only [wpOp,hi]
  have skip:K' (tm.put o.dst (.tuple [])) s→K (act.put o.dst Go.undef) w:=fun hk=>hK _ _ _ _ _ hk (Ext.refl M s w) r .undef
  have hd:=nT hb
  simp only [AI.dst]at hd
  subst hd
  have jY:vB P o=some (.dc z k n ps)∧g0=g:=by
   unfold nz at hb
   split at hb
   ·split at hb
    ·obtain⟨xs,_,h⟩:=map_some hb;cases h
    ·cases hb
   ·obtain⟨xs,_,h⟩:=map_some hb;cases h
   ·split at hb
    ·cases hb
    ·split at hb
     ·rename_i jY
      simp only [Option.some.injEq,AI.op.injEq,true_and]at hb
      obtain⟨h1,h2⟩:=hb
      split at h2
      ·cases h2
      ·cases h2;exact⟨jY,h1.symm⟩
     ·rename_i ao dQ jY
      simp only [Option.some.injEq,AI.op.injEq,true_and]at hb
      obtain⟨h1,h2⟩:=hb
      subst h2
      exact⟨jY,h1.symm⟩
     ·cases hb
  obtain⟨jY,rfl⟩:=jY
  simp only [rT,fB]at h
  rcases gl hg ht h with ⟨hw,hA⟩ | ⟨hw,hB⟩
  ·simp only [hw,if_true]
   left
   split at hA
   ·rename_i d s' lW
    obtain⟨v,w',M',cM,r',hv,e'⟩:=rE jY r ht lW
    unfold Oper.wp
    rcases cM with cM | ⟨cM,rfl⟩
    ·rw [cM,Oper.upon_value]
     exact hK _ _ _ _ _ hA e' r' hv
    ·rw [cM,Oper.upon_skip]
     exact hK _ _ _ _ _ hA e' r' hv
   ·exact hA.elim
  ·simp only [hw]
   exact skip hB
 ·have hs:rT ai=ai:=by
   unfold rT
   split
   ·rename_i d g z k n ps;exact absurd ⟨d,g,z,k,n,ps,rfl⟩ hb
   ·rfl
  rw [hs]at h
  exact qz hi hc r iu ht h hK
theorem LU {a:AI} {r:List AI} {K:Tm→St→Prop} {tm:Tm} {s:St} (h:fB P (a::r) K tm s):fB P [a] (fB P r K) tm s:=by
 cases a <;> exact h
theorem yu {B:fc} {nt:Nat} {ops:Array Oper} {Q:Exit→Tm→St→Prop} : ∀ (l:List Nat) (ol:List Oper) (is:List AI),l.map (ops[·]?)=ol.map some→mb P nt ops ol=some is→
 ∀ (tm:Tm) (s:St) (act:Act) (w:World),fB P (is.map rT) (Q .normal) tm s→Holds B nt tm s act w→wpOps P ops (lj B nt Q) l act w
 | [],[],is,_,hc,tm,s,act,w,h,hh=>by cases hc;exact⟨tm,s,h,hh⟩
 | [],_::_,_,hl,_,_,_,_,_,_,_=>by simp at hl
 | _::_,[],_,hl,_,_,_,_,_,_,_=>by simp at hl
 | i::l,o::ol,is,hl,hc,tm,s,act,w,h,hh=>by
  simp only [List.map_cons,List.cons.injEq]at hl
  obtain⟨hi,hl⟩:=hl
  unfold mb at hc
  split at hc
  ·rename_i ai E6 h1 h2
   cases hc
   obtain⟨M,e,r,ht,hn,hd⟩:=hh
   have lL:=qX h1
   have ZQ:=nU h1
   rw [List.map_cons]at h
   have key:=BJ (K:=fun act w=>wpOps P ops (lj B nt Q) l act w) (Q:=lj B nt Q) hi h1 r (B.laid.ext e) ht (LU h) (fun d v s1 w1 M1 hk e1 r1 hv=>
    yu (Q:=Q) l ol E6 hl h2 _ _ _ _ hk (ZQ ▸ Holds.put e ht hn hd lL e1 r1 hv))
   simpa only [wpOps,wpOp,hi]using key
  ·cases hc
theorem Sem.swap {B:fc} {nt:Nat} {is:List AI} {Q:Exit→Tm→St→Prop} {tm:Tm} {s:St} (h:ik P B nt (.run (is.map rT)) Q tm s):Sem P B nt (.run is) Q tm s:=by
 intro c hc act w hh
 obtain⟨id,ops,rfl,hi⟩:=iN hc
 refine wp_region ?_
 exact yu _ _ is (s8 ops) hi tm s act w (kf h) hh
end
end Go.Abs

/-! Tc4 -/

namespace Go.Abs
set_option maxRecDepth 8000
open Go.Proofs
theorem Ey {l:List aD} (h:l.Nodup):iT l=gn l:=by
 refine qL ?_ (iU l).1 fun x=> ?_
 ·have h1:=yo l
  have h2:(iT l).Nodup:=(List.mergeSort_perm l _).nodup_iff.2 h
  refine(List.pairwise_and_iff.2 ⟨h1,h2⟩).imp fun {a b} Kx=> ?_
  rcases rm a b with e | e | e
  ·exact e
  ·exact absurd e Kx.2
  ·rw [Kx.1]at e;cases e
 ·rw [(iU l).2];exact(List.mergeSort_perm l _).mem_iff
theorem tO {p:Pg} (n6:(p.scope.1==0)=true) : ∀ (n i:Nat) (out:List aD),Good p out→Good p (qm p n i out)
 | 0,i,out,h=>h
 | n+1,i,out,h=>by
  simp only [qm]
  split
  ·rename_i x hx
   obtain⟨g,hg⟩:=h.2 x (List.mem_of_getElem? hx)
   refine tO n6 n _ _ (h.add fun y m=> ?_)
   unfold wI at m
   rw [hg]at m
   exact uQ n6 (nu hg).1 m
  ·exact h
theorem vr {p:Pg} {name:aD} {f:Pc} (hf:p.find name=some f):Good p [name]:=
 ⟨by simp,fun x m=>by
  have:x=name:=by simpa using m
  subst this;exact⟨f,hf⟩⟩
theorem Qv {p:Pg} (h:p.kY) (n6:(p.scope.1==0)=true) {name:aD} {f:Pc} (hf:p.find name=some f) (s:St):aI Try.prog qF [.cL (ix p) 0, .str name] s (.slice .shared 1 ((gn (p.work name)).map encStr)) s:=by
 refine aI.pure ?_ (by simp [D.bI,D.ok,xm]) (by simp only [D.ok,Tag.ok,fi];rfl) s
 obtain⟨qW,qf,uL⟩:=h.procs
 obtain⟨R,hR⟩ : ∃ R,p.work name=R:=⟨_,rfl⟩
 have Ry:Good p R:=hR ▸ tO n6 _ _ _ (vr hf)
 rw [hR, ← Ey Ry.1]
 unfold Pg.work at hR
 have ZR:Good p [name]:=vr hf
 have Rw:=Ry.len
 unfold S0
 obtain⟨fn,sx,AP⟩:=yI
 refine aI.intro ⟨fn,sx,AP⟩ (Nat.le_of_ble_eq_true rfl) fun B hB=> ?_
 generalize hQ:ni (⟨[],[]⟩:St).au.length (⟨[],[]⟩:St).av.length _ _ (⟨[],[]⟩:St)=Q
 have⟨hD,hJ,hP,hY⟩:=cf
 refine Sem.og ?_
 repeat' (first
 | simp only [go_sem,hD,hJ,hP,hY]
 | (with_reducible refine aJ hQ ?_;simp only [az,aB,Option.some.injEq,exists_eq_left',go_sem,hD,hJ,hP,hY];repeat' (first | exact Ok.out | with_reducible refine aO ?_ ?_ | (simp;done))))
 refine Sem.seq (Sem.swap ?_)
 simp only [List.map_cons,List.map_nil,rT]
 repeat' (first
 | simp only [go_sem,hD,hJ,hP,hY]
 | (with_reducible refine aJ hQ ?_;simp only [az,aB,Option.some.injEq,exists_eq_left',go_sem,hD,hJ,hP,hY];repeat' (first | exact Ok.out | with_reducible refine aO ?_ ?_ | (simp;done))))
 refine Sem.og ?_
 repeat' (first
 | simp only [go_sem,hD,hJ,hP,hY]
 | (with_reducible refine aJ hQ ?_;simp only [az,aB,Option.some.injEq,exists_eq_left',go_sem,hD,hJ,hP,hY];repeat' (first | exact Ok.out | with_reducible refine aO ?_ ?_ | (simp;done))))
 refine dF 0 1 (bp.ind (ι:=Nat×Nat×List aD×Nat) (fun i=>qm p i.1 i.2.1 i.2.2.1=R∧Good p i.2.2.1∧i.1+i.2.1=p.procs.length+1∧i.2.2.2=i.2.2.1.length) (fun i=>i.1)
  (fun i=> [(0, .cL (ix p) 0),(5, .slice (.tok 0) 1 (i.2.2.1.map encStr)),(6, .int .i64 (i.2.1:Int))]) (fun i=>⟨[],[some i.2.2.2]⟩) ?_ (p.procs.length+1,0,[name],1) ⟨hR,ZR,rfl,rfl⟩)
 rintro⟨n,i,out,no⟩ ⟨h1,h2,h3,h4⟩ IH
 dsimp only at h1 h2 h3 h4
 subst h4
 have ly:=h2.len
 cases hx:out[i]? with
 | none=>
  have hD:decide ((i:Int)<(out.length:Int))=false:=by have:=List.getElem?_eq_none_iff.1 hx;simp;omega
  have:R=out:=by
   cases n with
   | zero=>simpa [qm]using h1.symm
   | succ n=>simp only [qm,hx]at h1;exact h1.symm
  subst this
  repeat' (first
 | simp only [go_sem,hD,hJ,hP,hY]
 | (with_reducible refine aJ hQ ?_;simp only [az,aB,Option.some.injEq,exists_eq_left',go_sem,hD,hJ,hP,hY];repeat' (first | exact Ok.out | with_reducible refine aO ?_ ?_ | (simp;done))))
  refine Sem.seq (Sem.sort (k:=5) (t:=0) (l:=R) hB (by decide) (by decide) (by decide) rfl rfl (by omega) ?_)
  refine gq (ac:=Rh) (Q:=Q) (tm:= [(5, .slice (.tok 0) 1 ((iT R).map encStr))]) (s:=⟨[],[some R.length]⟩) ?_
  repeat' (first
 | simp only [go_sem,hD,hJ,hP,hY]
 | (with_reducible refine aJ hQ ?_;simp only [az,aB,Option.some.injEq,exists_eq_left',go_sem,hD,hJ,hP,hY];repeat' (first | exact Ok.out | with_reducible refine aO ?_ ?_ | (simp;done))))
 | some x=>
  have mg:=(List.getElem?_eq_some_iff.1 hx).1
  have hD:decide ((i:Int)<(out.length:Int))=true:=by simp;omega
  have uC:i<4611686018427387904:=by omega
  cases n with
  | zero=>omega
  | succ n=>
  simp only [qm,hx]at h1
  obtain⟨g,AW⟩:=h2.2 x (List.mem_of_getElem? hx)
  have Ou:=(nu AW).1
  have KE:=fun s=>LS h AW s
  have ZS:wI p x=g.calls:=by unfold wI;rw [AW]
  rw [ZS]at h1
  have Rz : ∀ y∈g.calls,∃ f,p.find y=some f:=fun y m=>uQ n6 Ou m
  have aaU:g.calls.length≤p.procs.length:=Good.len ⟨oY (iU _).1,Rz⟩
  obtain⟨W,hW⟩ : ∃ W,vq out g.calls=W:=⟨_,rfl⟩
  rw [hW]at h1
  repeat' (first
 | simp only [go_sem,hD,hJ,hP,hY,hx]
 | (with_reducible refine CU (KE _) ?_)
 | (with_reducible refine aJ hQ ?_;simp only [az,aB,Option.some.injEq,exists_eq_left',go_sem,hD,hJ,hP,hY];repeat' (first | exact Ok.out | with_reducible refine aO ?_ ?_ | (simp;done))))
  refine dF 0 1 (bp.ind (ι:=List aD×Nat×List aD×Nat) (fun j=>g.calls.drop j.2.1=j.1∧vq j.2.2.1 j.1=W∧Good p j.2.2.1∧j.2.2.2=j.2.2.1.length) (fun j=>j.1.length)
   (fun j=> [(0, .cL (ix p) 0),(5, .slice (.tok 0) 1 (j.2.2.1.map encStr)),(6, .int .i64 (i:Int)),(22, .slice .shared 1 (g.calls.map encStr)),(23, .int .i64 (g.calls.length:Int)),(24, .int .i64 (j.2.1:Int))]) (fun j=>⟨[],[some j.2.2.2]⟩) ?_ (g.calls,0,out,out.length) ⟨rfl,hW,h2,rfl⟩)
  clear hW
  rintro⟨rest,k,br,n'⟩ ⟨j1,j2,j3,j4⟩ KB
  dsimp only at j1 j2 j3 j4
  subst j4
  have aaV:=j3.len
  cases rest with
  | nil=>
   have Tf:=drop_nil j1
   simp only [vq]at j2
   subst j2
   repeat' (first
 | simp only [go_sem,hD,hJ,hP,hY,Tf]
 | (with_reducible refine aJ hQ ?_;simp only [az,aB,Option.some.injEq,exists_eq_left',go_sem,hD,hJ,hP,hY];repeat' (first | exact Ok.out | with_reducible refine aO ?_ ?_ | (simp;done))))
   refine dA 0 1 ?_ ?_ (IH (n,i+1,br,br.length) ⟨h1,j3,by dsimp only;omega,rfl⟩ (Nat.lt_succ_self _))
   ·(simp only [go_sem,hD,hJ,hP,hY,aH uC];try exact bw)
   ·(simp only [go_sem,hD,hJ,hP,hY,aH uC];try exact bw)
  | cons y rest=>
   obtain⟨lR,Cc,sy,Rp⟩:=drop_cons j1
   have rk:k<4611686018427387904:=by omega
   have hP:(br.length+1)*17≤bH:=by unfold bH;omega
   have GX:=fun g s=>gm (l:=br) (by omega) y g s
   have hy:=Rz y (List.mem_of_getElem? lR)
   have uI:=j3.Rx hy
   simp only [vq]at j2
   rcases Bool.eq_false_or_eq_true (eg br y)with c1 | c1
   ·simp only [ug,c1,if_true]at j2
    repeat' (first
 | simp only [go_sem,hD,hJ,hP,hY,sy,lR,c1]
 | (with_reducible refine CU (GX _ _) ?_)
 | (with_reducible refine aJ hQ ?_;simp only [az,aB,Option.some.injEq,exists_eq_left',go_sem,hD,hJ,hP,hY];repeat' (first | exact Ok.out | with_reducible refine aO ?_ ?_ | (simp;done))))
    refine dA 0 1 ?_ ?_ (KB (rest,k+1,br,br.length) ⟨Cc,j2,j3,rfl⟩ (Nat.lt_succ_self _))
    ·(simp only [go_sem,hD,hJ,hP,hY,aH rk];try exact bw)
    ·(simp only [go_sem,hD,hJ,hP,hY,aH rk];try exact bw)
   ·simp only [ug,c1,Bool.false_eq_true,if_false]at j2 uI
    repeat' (first
 | simp only [go_sem,hD,hJ,hP,hY,sy,lR,c1]
 | (with_reducible refine CU (GX _ _) ?_)
 | (with_reducible refine aJ hQ ?_;simp only [az,aB,Option.some.injEq,exists_eq_left',go_sem,hD,hJ,hP,hY];repeat' (first | exact Ok.out | with_reducible refine aO ?_ ?_ | (simp;done))))
    refine dA 0 1 ?_ ?_ (KB (rest,k+1,br++ [y],br.length+1) ⟨Cc,j2,uI,by simp⟩ (Nat.lt_succ_self _))
    ·(simp only [go_sem,hD,hJ,hP,hY,aH rk,List.map_append,List.map_cons,List.map_nil,encStr];try exact bw)
    ·(simp only [go_sem,hD,hJ,hP,hY,aH rk,List.map_append,List.map_cons,List.map_nil,encStr];try exact bw)
end Go.Abs

/-! Tc5 -/

namespace Go.Abs
set_option maxRecDepth 8000
open Go.Proofs
theorem AX (name:aD) : ∀ l:List Pc,l.any (fun f=>f.name==name)=(gO name l).isSome
 | []=>rfl
 | f::l=>by
  simp only [List.any_cons,gO]
  cases e:(f.name==name)
  ·simp [AX name l]
  ·simp
theorem Jr (name:aD) (f:Pc):aI Try.prog kD ([.agg (bL f)]++ [.ptr 0 0]) ⟨[[.str name]],[]⟩ (.bool (f.name==name)) ⟨[[.str name]],[]⟩:=by
 show aI Try.prog kD [.agg (bL f), .ptr 0 0] _ _ _
 refine aI.go uv rfl fun B Q hB hQ=> ?_
 have⟨hD,hJ,hP,hY⟩:=cf
 repeat' (first
 | simp only [go_sem,hD,hJ,hP,hY]
 | (with_reducible refine aJ hQ ?_;simp only [az,aB,Option.some.injEq,exists_eq_left',go_sem,hD,hJ,hP,hY];repeat' (first | exact Ok.out | with_reducible refine aO ?_ ?_ | (simp;done))))
def Pg.rU (p:Pg) (name:aD):Option Pc:=if p.scope.1==0 then p.find name else none
theorem Js {p:Pg} (h:p.kY) (name:aD) (s:St):aI Try.prog oj [.agg (bS p), .str name] s (.bool (p.rU name).isSome) s:=by
 refine aI.pure ?_ (by simp [D.bI,D.ok,km]) rfl s
 obtain⟨qW,qf,uL⟩:=h.procs
 have nR:=fun s=>vm h s
 have hi:=fun {s:St} {o:Nat} (ho:s.au[o]? = some [.str name])=>tA (sG (l:=p.procs) (f:=kD) (row:= [.str name]) (b:=fun f:Pc=>f.name==name) (by omega) rfl (by with_unfolding_all rfl) (fun x _=>Jr name x)) rfl (zb _) rfl ho
 have fU:=fun {s:St} {o:Nat} (ho:s.au[o]? = some [.str name])=>(show aI Try.prog eQ [.slice .shared 5 (p.procs.map bL), .eW 64 [.ptr o 0]] s (.bool (p.procs.any fun f:Pc=>f.name==name)) s from hi ho)
 simp only [AX]at fU
 unfold Pg.rU Pg.find
 unfold S0
 rcases Bool.eq_false_or_eq_true (p.scope.1==0)with b1 | b1
 ·simp only [b1,if_true]
  refine aI.go qb rfl fun B Q hB hQ=> ?_
  have⟨hD,hJ,hP,hY⟩:=cf
  repeat' (first
 | simp only [go_sem,hD,hJ,hP,hY,b1]
 | (with_reducible refine CU (nR _) ?_)
 | (with_reducible refine CU (fU (by with_unfolding_all rfl)) ?_)
 | (with_reducible refine aJ hQ ?_;simp only [az,aB,Option.some.injEq,exists_eq_left',go_sem,hD,hJ,hP,hY];repeat' (first | exact Ok.out | with_reducible refine aO ?_ ?_ | (simp;done))))
 ·simp only [b1,Bool.false_eq_true,if_false,Option.isSome_none]
  refine aI.go qb rfl fun B Q hB hQ=> ?_
  have⟨hD,hJ,hP,hY⟩:=cf
  repeat' (first
 | simp only [go_sem,hD,hJ,hP,hY,b1]
 | (with_reducible refine CU (nR _) ?_)
 | (with_reducible refine CU (fU (by with_unfolding_all rfl)) ?_)
 | (with_reducible refine aJ hQ ?_;simp only [az,aB,Option.some.injEq,exists_eq_left',go_sem,hD,hJ,hP,hY];repeat' (first | exact Ok.out | with_reducible refine aO ?_ ?_ | (simp;done))))
def Pg.ZT (p:Pg) (name:aD):List aD:=match p.rU name with | some f=>f.calls | none=> []
def Pg.Tg (p:Pg) (name:aD):List aD:=match p.rU name with | some _=>gn (p.work name) | none=> []
theorem yv {p:Pg} {name:aD} {f:Pc} (h:p.rU name=some f):(p.scope.1==0)=true∧p.find name=some f:=by
 unfold Pg.rU at h
 split at h
 ·exact⟨by assumption,h⟩
 ·cases h
end Go.Abs

/-! Tc6 -/

namespace Go.Abs
set_option maxRecDepth 8000
open Go.Proofs
def nJ (p:Pg) (out:List aD):List aD→List aD
 | []=>out
 | v::l=>nJ p (if eg p.globals v then out++ [v]else out) l
def nK (p:Pg) (out:List aD):List Sm→List aD
 | []=>out
 | v::l=>nK p (nJ p out v.said) l
def pF (p:Pg) (n:aD):List Sm:=match p.find n with | some f=>Sm.e9 f.body | none=> []
def oZ (p:Pg) (out:List aD):List aD→List aD
 | []=>out
 | n::l=>oZ p (nK p out (pF p n)) l
theorem rV (p:Pg) : ∀ (l out:List aD),out.length≤(nJ p out l).length∧(nJ p out l).length≤out.length+l.length
 | [],out=>⟨Nat.le_refl _,Nat.le_refl _⟩
 | v::l,out=>by
  simp only [nJ]
  have h:=rV p l (if eg p.globals v then out++ [v]else out)
  have h2:out.length≤(if eg p.globals v then out++ [v]else out).length∧(if eg p.globals v then out++ [v]else out).length≤out.length+1:=by split <;> simp
  simp only [List.length_cons]
  omega
def kE:List Sm→Nat
 | []=>0
 | v::l=>v.said.length+kE l
theorem tP : ∀ a b:List Sm,kE (a++b)=kE a+kE b
 | [],b=>by simp [kE]
 | v::a,b=>by simp only [List.cons_append,kE,tP a b];omega
theorem LV (v:Sm):v.said.length≤1+v.x.size+2*Ar.aT v.args:=by
 have : ∀ (l:List Ar) (out:List aD),(Ar.said out l).length≤out.length+2*Ar.aT l:=by
  intro l
  induction l with
  | nil=>intro out;simp [Ar.said]
  | cons a l ih=>
   intro out
   simp only [Ar.said,Ar.aT]
   refine Nat.le_trans (ih _) ?_
   have:=gU a.x
   have:1≤a.x.size:=by obtain⟨_,_,_,_⟩:=a.x;simp [Ex.size]
   simp only [List.length_append]
   split <;> simp <;> omega
 have h1:=this v.args (v.oV++v.x.names)
 have h2:=gU v.x
 have h4:v.oV.length≤1:=by unfold Sm.oV;split <;> simp
 simp only [List.length_append]at h1
 unfold Sm.said
 omega
mutual
theorem GY : ∀ s:Sm,kE s.pre≤2*s.size
 | ⟨id,kind,labels,name,proc,x,has,args,aZ,aQ⟩=>by
  simp only [Sm.pre,kE,tP,Sm.size]
  have h1:=LV ⟨id,kind,labels,name,proc,x,has,args,aZ,aQ⟩
  have h2:=o3 aZ
  have h3:=o3 aQ
  dsimp only at h1
  omega
theorem o3 : ∀ l:List Sm,kE (Sm.e9 l)≤2*Sm.aT l
 | []=>by simp [Sm.e9,kE,Sm.aT]
 | s::l=>by
  simp only [Sm.e9,tP,Sm.aT]
  have:=GY s;have:=o3 l;omega
end
theorem rW (p:Pg) : ∀ (l:List Sm) (out:List aD),out.length≤(nK p out l).length∧(nK p out l).length≤out.length+kE l
 | [],out=>⟨Nat.le_refl _,Nat.le_refl _⟩
 | v::l,out=>by
  simp only [nK,kE]
  have h:=rW p l (nJ p out v.said)
  have h2:=rV p v.said out
  omega
theorem rX {p:Pg} (h:p.kY) : ∀ (l out:List aD),out.length≤(oZ p out l).length∧(oZ p out l).length≤out.length+l.length*1800000
 | [],out=>⟨Nat.le_refl _,by simp [oZ]⟩
 | n::l,out=>by
  simp only [oZ]
  have h1:=rX h l (nK p out (pF p n))
  have h2:=rW p (pF p n) out
  have h3:kE (pF p n)≤1800000:=by
   unfold pF
   split
   ·rename_i f hf
    have:=o3 f.body
    have h4:=Pc.b6 (nu hf).1
    have h5:=h.procs.2.1
    simp only [Pc.size]at h4
    omega
   ·simp [kE]
  simp only [List.length_cons]
  omega
theorem GZ {p:Pg} (h:p.may=true):p.procs.length≤16:=by
 unfold Pg.may at h
 split at h
 ·cases h
 ·rename_i c
  simp only [Bool.or_eq_true,decide_eq_true_eq,not_or,Int.not_lt,gt_iff_lt]at c
  have:=c.1.2
  omega
def Pg.nw (p:Pg) (name:aD):List aD:=oZ p [] (gn (p.work name))
def Pg.lF (p:Pg) (name:aD):List aD:=match p.rU name with | some _=>gn (p.nw name) | none=> []
theorem AY {p:Pg} (n6:(p.scope.1==0)=true) {name:aD} {f:Pc} (hf:p.find name=some f):Good p (gn (p.work name)):=by
 have h:=tO n6 (p.procs.length+1) 0 [name] (vr hf)
 refine⟨oY (iU _).1,fun x m=>h.2 x ?_⟩
 exact((iU _).2 x).1 m
theorem yw {p:Pg} (h:p.kY) (name:aD) (s:St):aI Try.prog kB [.agg (bS p), .str name] s (.slice .shared 1 ((p.lF name).map encStr)) s:=by
 refine aI.pure ?_ (by simp [D.bI,D.ok,km]) (by simp only [D.ok,Tag.ok,fi];rfl) s
 have hk:=fun s=>Js h name s
 have cU:=fun s=>ze (p:=p) (by have:=h.procs;omega) s
 unfold Pg.lF
 unfold S0
 cases Jt:p.rU name with
 | none=>
  simp only [Jt,Option.isSome_none]at hk
  simp only [List.map_nil]
  refine aI.go oJ rfl fun B Q hB hQ=> ?_
  have⟨hD,hJ,hP,hY⟩:=cf
  repeat' (first
 | simp only [go_sem,hD,hJ,hP,hY]
 | (with_reducible refine CU (hk _) ?_)
 | (with_reducible refine aJ hQ ?_;simp only [az,aB,Option.some.injEq,exists_eq_left',go_sem,hD,hJ,hP,hY];repeat' (first | exact Ok.out | with_reducible refine aO ?_ ?_ | (simp;done))))
 | some f=>
 obtain⟨n6,hf⟩:=yv Jt
 simp only [Jt,Option.isSome_some]at hk
 dsimp only
 obtain⟨qW,qf,uL⟩:=h.procs
 have hN:=AY n6 hf
 obtain⟨N,Ov⟩ : ∃ N,gn (p.work name)=N:=⟨_,rfl⟩
 rw [Ov]at hN
 have hNl:=hN.len
 obtain⟨R,hR⟩ : ∃ R,p.nw name=R:=⟨_,rfl⟩
 rw [hR]
 unfold Pg.nw at hR
 rw [Ov]at hR
 have Rw:R.length≤28800000:=by
  have:=(rX h N []).2
  rw [hR]at this
  have h4:=GZ (yk n6)
  have h3:N.length*1800000≤16*1800000:=Nat.mul_le_mul_right _ (by omega)
  simp only [List.length_nil]at this
  omega
 have KE:=fun s=>Qv h n6 hf s
 simp only [Ov]at KE
 obtain⟨fn,sx,AP⟩:=oJ
 refine aI.intro ⟨fn,sx,AP⟩ (Nat.le_of_ble_eq_true rfl) fun B hB=> ?_
 generalize hQ:ni (⟨[],[]⟩:St).au.length (⟨[],[]⟩:St).av.length _ _ (⟨[],[]⟩:St)=Q
 have⟨hD,hJ,hP,hY⟩:=cf
 refine Sem.og ?_
 repeat' (first
 | simp only [go_sem,hD,hJ,hP,hY]
 | (with_reducible refine aJ hQ ?_;simp only [az,aB,Option.some.injEq,exists_eq_left',go_sem,hD,hJ,hP,hY];repeat' (first | exact Ok.out | with_reducible refine aO ?_ ?_ | (simp;done))))
 refine Sem.og ?_
 repeat' (first
 | simp only [go_sem,hD,hJ,hP,hY]
 | (with_reducible refine CU (hk _) ?_)
 | (with_reducible refine aJ hQ ?_;simp only [az,aB,Option.some.injEq,exists_eq_left',go_sem,hD,hJ,hP,hY];repeat' (first | exact Ok.out | with_reducible refine aO ?_ ?_ | (simp;done))))
 refine Sem.og ?_
 repeat' (first
 | simp only [go_sem,hD,hJ,hP,hY]
 | (with_reducible refine CU (cU _) ?_)
 | (with_reducible refine aJ hQ ?_;simp only [az,aB,Option.some.injEq,exists_eq_left',go_sem,hD,hJ,hP,hY];repeat' (first | exact Ok.out | with_reducible refine aO ?_ ?_ | (simp;done))))
 refine Sem.og ?_
 repeat' (first
 | simp only [go_sem,hD,hJ,hP,hY]
 | (with_reducible refine aJ hQ ?_;simp only [az,aB,Option.some.injEq,exists_eq_left',go_sem,hD,hJ,hP,hY];repeat' (first | exact Ok.out | with_reducible refine aO ?_ ?_ | (simp;done))))
 refine Sem.og ?_
 repeat' (first
 | simp only [go_sem,hD,hJ,hP,hY]
 | (with_reducible refine CU (KE _) ?_)
 | (with_reducible refine aJ hQ ?_;simp only [az,aB,Option.some.injEq,exists_eq_left',go_sem,hD,hJ,hP,hY];repeat' (first | exact Ok.out | with_reducible refine aO ?_ ?_ | (simp;done))))
 refine bp.qB 6 1 rfl ?_
 simp only [go_sem,hD,hJ,hP,hY]
 refine dF 1 1 (bp.ind (ι:=List aD×Nat×List aD×Nat) (fun i=>N.drop i.2.1=i.1∧oZ p i.2.2.1 i.1=R∧i.2.2.1.length≤R.length∧i.2.2.2=i.2.2.1.length) (fun i=>i.1.length)
  (fun i=> [(2, .ptr 0 0),(5, .cL (ix p) 0),(6, .slice (.tok 0) 1 (i.2.2.1.map encStr)),(21, .slice .shared 1 (N.map encStr)),(22, .int .i64 (N.length:Int)),(23, .int .i64 (i.2.1:Int))]) (fun i=>⟨[bS p],[some i.2.2.2]⟩) ?_ (N,0,[],0) ⟨rfl,hR,Nat.zero_le _,rfl⟩)
 rintro⟨rest,k,out,no⟩ ⟨h1,h2,h3,h4⟩ IH
 dsimp only at h1 h2 h3 h4
 subst h4
 cases rest with
 | nil=>
  have hD:=drop_nil h1
  simp only [oZ]at h2
  subst h2
  have wF:(iT out).length=out.length:=List.length_mergeSort out
  repeat' (first
 | simp only [go_sem,hD,hJ,hP,hY]
 | (with_reducible refine aJ hQ ?_;simp only [az,aB,Option.some.injEq,exists_eq_left',go_sem,hD,hJ,hP,hY];repeat' (first | exact Ok.out | with_reducible refine aO ?_ ?_ | (simp;done))))
  refine Sem.seq (Sem.sort (k:=6) (t:=0) (l:=out) hB (by decide) (by decide) (by decide) rfl rfl (by omega) ?_)
  refine Sem.seq (Sem.compact (k:=6) (t:=0) (l:=iT out) hB (by decide) rfl (by rw [wF];rfl) (by rw [wF];omega) ?_)
  rw [tL]
  refine gq (ac:= .ret) (Q:=Q) (tm:= [(59, .slice (.tok 0) 1 ((gn out).map encStr)),(4, .slice (.tok 0) 1 ((gn out).map encStr))]) (s:=⟨[],[some (gn out).length]⟩) ?_
  repeat' (first
 | simp only [go_sem,hD,hJ,hP,hY]
 | (with_reducible refine aJ hQ ?_;simp only [az,aB,Option.some.injEq,exists_eq_left',go_sem,hD,hJ,hP,hY];repeat' (first | exact Ok.out | with_reducible refine aO ?_ ?_ | (simp;done))))
 | cons x rest=>
  obtain⟨hJ,g2,hD,g4⟩:=drop_cons h1
  have bB:k<4611686018427387904:=by omega
  obtain⟨g,AW⟩:=hN.2 x (List.mem_of_getElem? hJ)
  have Ou:=(nu AW).1
  have ZU:pF p x=Sm.e9 g.body:=by unfold pF;rw [AW]
  simp only [oZ,ZU]at h2
  obtain⟨j,hj,si⟩:=tM (k:=0) AW
  have si:p.at x=((j:Nat):Int):=by unfold Pg.at;simpa using si
  have yd:=fun s=>Gj (p:=p) (by omega) x s
  simp only [si]at yd
  obtain⟨it,ri,GM⟩:=IZ hj (by omega)
  have Oi:it.length≤900000:=by
   have e:=congrArg List.length ri
   obtain⟨a,b,e',_,_,e3,e4⟩:=(lY p).2 j g hj
   have e5:=lZ p
   have e6:=congrArg List.length e3
   rw [e4]at e5
   simp only [List.length_map,List.length_append]at e e5 e6
   omega
  rw [← ri]at h2
  repeat' (first
 | simp only [go_sem,hD,hJ,hP,hY,hJ]
 | (with_reducible refine CU (yd _) ?_)
 | (with_reducible refine CU (GM _) ?_)
 | (with_reducible refine aJ hQ ?_;simp only [az,aB,Option.some.injEq,exists_eq_left',go_sem,hD,hJ,hP,hY];repeat' (first | exact Ok.out | with_reducible refine aO ?_ ?_ | (simp;done))))
  obtain⟨W,hW⟩ : ∃ W,nK p out (it.map Im.s)=W:=⟨_,rfl⟩
  rw [hW]at h2
  have ZV:W.length≤R.length:=by have:=(rX h rest W).1;rw [h2]at this;exact this
  have GK:out.length≤W.length:=by have:=(rW p (it.map Im.s) out).1;rw [hW]at this;exact this
  refine dF 1 1 (bp.ind (ι:=List Im×Nat×List aD×Nat) (fun i=>it.drop i.2.1=i.1∧nK p i.2.2.1 (i.1.map Im.s)=W∧i.2.2.1.length≤W.length∧i.2.2.2=i.2.2.1.length) (fun i=>i.1.length)
   (fun i=> [(2, .ptr 0 0),(5, .cL (ix p) 0),(6, .slice (.tok 0) 1 (i.2.2.1.map encStr)),(21, .slice .shared 1 (N.map encStr)),(22, .int .i64 (N.length:Int)),(23, .int .i64 (k:Int)),(31, .slice .shared 17 (it.map dW)),(32, .int .i64 (it.length:Int)),(33, .int .i64 (i.2.1:Int))]) (fun i=>⟨[bS p],[some i.2.2.2]⟩) ?_ (it,0,out,out.length) ⟨rfl,hW,GK,rfl⟩)
  rintro⟨qn,k2,vt,no⟩ ⟨j1,j2,j3,j4⟩ wu
  dsimp only at j1 j2 j3 j4
  subst j4
  cases qn with
  | nil=>
   have Ti:=drop_nil j1
   simp only [List.map_nil,nK]at j2
   subst j2
   repeat' (first
 | simp only [go_sem,hD,hJ,hP,hY,Ti]
 | (with_reducible refine aJ hQ ?_;simp only [az,aB,Option.some.injEq,exists_eq_left',go_sem,hD,hJ,hP,hY];repeat' (first | exact Ok.out | with_reducible refine aO ?_ ?_ | (simp;done))))
   refine dA 1 1 ?_ ?_ (IH (rest,k+1,vt,vt.length) ⟨g2,h2,ZV,rfl⟩ (Nat.lt_succ_self _))
   ·(simp only [go_sem,hD,hJ,hP,hY,aH bB];try exact bw)
   ·(simp only [go_sem,hD,hJ,hP,hY,aH bB];try exact bw)
  | cons y qn=>
   obtain⟨lR,Cc,sy,Rp⟩:=drop_cons j1
   have rk:k2<4611686018427387904:=by omega
   have ZW:y.s∈Sm.e9 g.body:=by rw [← ri];exact List.mem_map_of_mem (List.mem_of_getElem? lR)
   have JQ:=h.said Ou _ ZW
   have Kz:=fun s=>tC JQ s
   have wF:=AJ _ JQ
   simp only [List.map_cons,nK]at j2
   repeat' (first
 | simp only [go_sem,hD,hJ,hP,hY,sy,lR]
 | (with_reducible refine CU (Kz _) ?_)
 | (with_reducible refine aJ hQ ?_;simp only [az,aB,Option.some.injEq,exists_eq_left',go_sem,hD,hJ,hP,hY];repeat' (first | exact Ok.out | with_reducible refine aO ?_ ?_ | (simp;done))))
   obtain⟨V,hV⟩ : ∃ V,nJ p vt y.s.said=V:=⟨_,rfl⟩
   rw [hV]at j2
   have ZX:V.length≤W.length:=by have:=(rW p (qn.map Im.s) V).1;rw [j2]at this;exact this
   have ZY:vt.length≤V.length:=by have:=(rV p y.s.said vt).1;rw [hV]at this;exact this
   refine dF 1 1 (bp.ind (ι:=List aD×Nat×List aD×Nat) (fun i=>y.s.said.drop i.2.1=i.1∧nJ p i.2.2.1 i.1=V∧i.2.2.1.length≤V.length∧i.2.2.2=i.2.2.1.length) (fun i=>i.1.length)
    (fun i=> [(2, .ptr 0 0),(5, .cL (ix p) 0),(6, .slice (.tok 0) 1 (i.2.2.1.map encStr)),(21, .slice .shared 1 (N.map encStr)),(22, .int .i64 (N.length:Int)),(23, .int .i64 (k:Int)),(31, .slice .shared 17 (it.map dW)),(32, .int .i64 (it.length:Int)),(33, .int .i64 (k2:Int)),(39, .slice .shared 1 (y.s.said.map encStr)),(40, .int .i64 (y.s.said.length:Int)),(41, .int .i64 (i.2.1:Int))]) (fun i=>⟨[bS p],[some i.2.2.2]⟩) ?_ (y.s.said,0,vt,vt.length) ⟨rfl,hV,ZY,rfl⟩)
   rintro⟨wJ,k3,rY,no⟩ ⟨l1,l2,l3,l4⟩ RA
   dsimp only at l1 l2 l3 l4
   subst l4
   cases wJ with
   | nil=>
    have Tj:=drop_nil l1
    simp only [nJ]at l2
    subst l2
    repeat' (first
 | simp only [go_sem,hD,hJ,hP,hY,Tj]
 | (with_reducible refine aJ hQ ?_;simp only [az,aB,Option.some.injEq,exists_eq_left',go_sem,hD,hJ,hP,hY];repeat' (first | exact Ok.out | with_reducible refine aO ?_ ?_ | (simp;done))))
    refine dA 1 1 ?_ ?_ (wu (qn,k2+1,rY,rY.length) ⟨Cc,j2,ZX,rfl⟩ (Nat.lt_succ_self _))
    ·(simp only [go_sem,hD,hJ,hP,hY,aH rk];try exact bw)
    ·(simp only [go_sem,hD,hJ,hP,hY,aH rk];try exact bw)
   | cons z wJ=>
    obtain⟨Ow,RB,RC,lg4⟩:=drop_cons l1
    have KF:k3<4611686018427387904:=by omega
    have GX:=fun g s=>gm (l:=p.globals) (by omega) z g s
    simp only [nJ]at l2
    rcases Bool.eq_false_or_eq_true (eg p.globals z)with c1 | c1
    ·simp only [c1,if_true]at l2
     have hP:(rY.length+1)*17≤bH:=by unfold bH;omega
     have Z0:(rY++ [z]).length≤V.length:=by have:=(rV p wJ (rY++ [z])).1;rw [l2]at this;exact this
     repeat' (first
 | simp only [go_sem,hD,hJ,hP,hY,RC,Ow,c1]
 | (with_reducible refine CU (GX _ _) ?_)
 | (with_reducible refine aJ hQ ?_;simp only [az,aB,Option.some.injEq,exists_eq_left',go_sem,hD,hJ,hP,hY];repeat' (first | exact Ok.out | with_reducible refine aO ?_ ?_ | (simp;done))))
     refine dA 1 1 ?_ ?_ (RA (wJ,k3+1,rY++ [z],rY.length+1) ⟨RB,l2,Z0,by simp⟩ (Nat.lt_succ_self _))
     ·(simp only [go_sem,hD,hJ,hP,hY,aH KF,List.map_append,List.map_cons,List.map_nil,encStr];try exact bw)
     ·(simp only [go_sem,hD,hJ,hP,hY,aH KF,List.map_append,List.map_cons,List.map_nil,encStr];try exact bw)
    ·simp only [c1,Bool.false_eq_true,if_false]at l2
     repeat' (first
 | simp only [go_sem,hD,hJ,hP,hY,RC,Ow,c1]
 | (with_reducible refine CU (GX _ _) ?_)
 | (with_reducible refine aJ hQ ?_;simp only [az,aB,Option.some.injEq,exists_eq_left',go_sem,hD,hJ,hP,hY];repeat' (first | exact Ok.out | with_reducible refine aO ?_ ?_ | (simp;done))))
     refine dA 1 1 ?_ ?_ (RA (wJ,k3+1,rY,rY.length) ⟨RB,l2,l3,rfl⟩ (Nat.lt_succ_self _))
     ·(simp only [go_sem,hD,hJ,hP,hY,aH KF];try exact bw)
     ·(simp only [go_sem,hD,hJ,hP,hY,aH KF];try exact bw)
end Go.Abs

/-! Tc7 -/

namespace Go.Abs
open Go.Proofs
end Go.Abs

/-! Al1 -/

namespace Go.Abs
set_option maxRecDepth 8000
open Go.Proofs
def jC (nm:aD) (T:List aD) (seen:List aD):List Ar→Bool
 | []=>true
 | a::l=>if a.ref then(if eg seen a.name || (a.name==nm || eg T a.name)then false else jC nm T (seen++ [a.name]) l)else jC nm T seen l
def Ox (T:List aD) (seen:List aD):List Ar→Bool
 | []=>true
 | a::l=>if a.ref then(if eg seen a.name || eg T a.name then false else Ox T (seen++ [a.name]) l)else Ox T seen l
def Sm.Tk (v:Sm):List aD:=if v.name != []then [v.name]else []
theorem AZ {v:Sm} (tg:v.args.length<1000000000) {T:List aD} (hT:T.length<4611686018427387904) (s:St) :
 aI Try.prog k8 [.agg (bf v), .slice .shared 1 (T.map encStr)] s (.bool (jC v.name T [] v.args)) s:=by
 refine aI.pure ?_ (by simp [D.bI,D.ok,mn,Tag.ok,fi]) rfl s
 generalize hR:jC v.name T [] v.args=R
 have KH:=fun x s=>rO hT x s
 unfold S0
 refine aI.go vh rfl fun B Q hB hQ=> ?_
 have⟨hD,hJ,hP,hY⟩:=cf
 repeat' (first
 | simp only [go_sem,hD,hJ,hP,hY]
 | (with_reducible refine aJ hQ ?_;simp only [az,aB,Option.some.injEq,exists_eq_left',go_sem,hD,hJ,hP,hY];repeat' (first | exact Ok.out | with_reducible refine aO ?_ ?_ | (simp;done))))
 refine bp.qB 5 1 rfl ?_
 simp only [go_sem,hD,hJ,hP,hY]
 refine dF 1 1 (bp.ind (ι:=List Ar×Nat×List aD×Nat) (fun i=>v.args.drop i.2.1=i.1∧jC v.name T i.2.2.1 i.1=R∧i.2.2.1.length≤i.2.1∧i.2.2.2=i.2.2.1.length) (fun i=>i.1.length)
  (fun i=> [(1, .slice .shared 1 (T.map encStr)),(2, .ptr 0 0),(5, .slice (.tok 0) 1 (i.2.2.1.map encStr)),(9, .slice .shared 6 (v.args.map c7)),(10, .int .i64 (v.args.length:Int)),(11, .int .i64 (i.2.1:Int))]) (fun i=>⟨[bf v],[some i.2.2.2]⟩) ?_ (v.args,0,[],0) ⟨rfl,hR,Nat.le_refl _,rfl⟩)
 clear hR
 rintro⟨rest,k,seen,n'⟩ ⟨h1,h2,h3,h4⟩ IH
 dsimp only at h1 h2 h3 h4
 subst h4
 cases rest with
 | nil=>
  have hD:=drop_nil h1
  simp only [jC]at h2
  subst h2
  repeat' (first
 | simp only [go_sem,hD,hJ,hP,hY]
 | (with_reducible refine aJ hQ ?_;simp only [az,aB,Option.some.injEq,exists_eq_left',go_sem,hD,hJ,hP,hY];repeat' (first | exact Ok.out | with_reducible refine aO ?_ ?_ | (simp;done))))
 | cons a rest=>
  obtain⟨hJ,g2,hD,g4⟩:=drop_cons h1
  have bB:k<4611686018427387904:=by omega
  have hP:(seen.length+1)*17≤bH:=by unfold bH;omega
  have mU:=fun g s=>gm (l:=seen) (by omega) a.name g s
  simp only [jC]at h2
  rcases Bool.eq_false_or_eq_true a.ref with c1 | c1
  case inr=>
   simp only [c1,Bool.false_eq_true,if_false]at h2
   repeat' (first
 | simp only [go_sem,hD,hJ,hP,hY,c1,Bool.not_false]
 | (with_reducible refine aJ hQ ?_;simp only [az,aB,Option.some.injEq,exists_eq_left',go_sem,hD,hJ,hP,hY];repeat' (first | exact Ok.out | with_reducible refine aO ?_ ?_ | (simp;done))))
   refine dA 1 1 ?_ ?_ (IH (rest,k+1,seen,_) ⟨g2,h2,by dsimp only;omega,rfl⟩ (Nat.lt_succ_self _))
   ·(simp only [go_sem,hD,hJ,hP,hY,aH bB];try exact bw)
   ·(simp only [go_sem,hD,hJ,hP,hY,aH bB];try exact bw)
  simp only [c1,if_true]at h2
  rcases Bool.eq_false_or_eq_true (eg seen a.name)with c2 | c2
  ·simp only [c2,Bool.true_or,if_true]at h2
   subst h2
   repeat' (first
 | simp only [go_sem,hD,hJ,hP,hY,c1,c2,Bool.not_true]
 | (with_reducible refine CU (mU _ _) ?_)
 | (with_reducible refine CU (KH _ _) ?_)
 | (with_reducible refine aJ hQ ?_;simp only [az,aB,Option.some.injEq,exists_eq_left',go_sem,hD,hJ,hP,hY];repeat' (first | exact Ok.out | with_reducible refine aO ?_ ?_ | (simp;done))))
  rcases Bool.eq_false_or_eq_true (a.name==v.name)with c3 | c3
  ·simp only [c2,c3,Bool.false_or,Bool.true_or,if_true]at h2
   subst h2
   repeat' (first
 | simp only [go_sem,hD,hJ,hP,hY,c1,c2,c3,Bool.not_true]
 | (with_reducible refine CU (mU _ _) ?_)
 | (with_reducible refine CU (KH _ _) ?_)
 | (with_reducible refine aJ hQ ?_;simp only [az,aB,Option.some.injEq,exists_eq_left',go_sem,hD,hJ,hP,hY];repeat' (first | exact Ok.out | with_reducible refine aO ?_ ?_ | (simp;done))))
  rcases Bool.eq_false_or_eq_true (eg T a.name)with c4 | c4
  ·simp only [c2,c3,c4,Bool.false_or,if_true]at h2
   subst h2
   repeat' (first
 | simp only [go_sem,hD,hJ,hP,hY,c1,c2,c3,c4,Bool.not_true]
 | (with_reducible refine CU (mU _ _) ?_)
 | (with_reducible refine CU (KH _ _) ?_)
 | (with_reducible refine aJ hQ ?_;simp only [az,aB,Option.some.injEq,exists_eq_left',go_sem,hD,hJ,hP,hY];repeat' (first | exact Ok.out | with_reducible refine aO ?_ ?_ | (simp;done))))
  ·simp only [c2,c3,c4,Bool.false_or,Bool.false_eq_true,if_false]at h2
   repeat' (first
 | simp only [go_sem,hD,hJ,hP,hY,c1,c2,c3,c4,Bool.not_true]
 | (with_reducible refine CU (mU _ _) ?_)
 | (with_reducible refine CU (KH _ _) ?_)
 | (with_reducible refine aJ hQ ?_;simp only [az,aB,Option.some.injEq,exists_eq_left',go_sem,hD,hJ,hP,hY];repeat' (first | exact Ok.out | with_reducible refine aO ?_ ?_ | (simp;done))))
   refine dA 1 1 ?_ ?_ (IH (rest,k+1,seen++ [a.name],seen.length+1) ⟨g2,h2,by simp;omega,by simp⟩ (Nat.lt_succ_self _))
   ·(simp only [go_sem,hD,hJ,hP,hY,aH bB,List.map_append,List.map_cons,List.map_nil,encStr];try exact bw)
   ·(simp only [go_sem,hD,hJ,hP,hY,aH bB,List.map_append,List.map_cons,List.map_nil,encStr];try exact bw)
def jD (p:Pg):List Pc→List D
 | []=> []
 | f::l=> .str f.name:: .slice .shared 1 ((p.lF f.name).map encStr)::jD p l
theorem G0 (p:Pg) : ∀ l,D.bI 0 0 (jD p l)=true
 | []=>rfl
 | f::l=>by simp only [jD,D.bI,D.ok,Tag.ok,fi,G0 p l];rfl
theorem LW (n m:Nat) (p:Pg) (l:List Pc):D.fh n m (jD p l)=jD p l:=fu n m _ (G0 p l)
attribute [go_sem] LW
theorem A0 (p:Pg) : ∀ l m,jD p (l++m)=jD p l++jD p m
 | [],m=>rfl
 | f::l,m=>by simp only [List.cons_append,jD,A0 p l m]
theorem A1 {p:Pg} {nm:aD} {d:D} : ∀ {l:List Pc},nm∉l.map (·.name)→qq nm d (jD p l)=some (jD p l++ [.str nm,d])
 | [],_=>rfl
 | f::l,h=>by
  simp only [List.map_cons,List.mem_cons,not_or]at h
  have:(f.name==nm)=false:=by simpa using fun e=>h.1 e.symm
  simp only [jD,qq,this,Bool.false_eq_true,if_false,A1 h.2,List.cons_append]
theorem A2 {p:Pg} {nm:aD} {z:D} : ∀ {l:List Pc} {f:Pc},gO nm l=some f→rr nm z (jD p l)=some (.slice .shared 1 ((p.lF nm).map encStr))
 | g::l,f,h=>by
  simp only [gO]at h
  simp only [jD,rr]
  split at h
  ·rename_i e
   rw [if_pos e,eq_of_beq e]
  ·rename_i e
   rw [if_neg e]
   exact A2 h
theorem LX (l:List aD) : ∀ (s:List aD),uO s l=false→∀ a x b,l=a++x::b→x∉s++a:=by
 induction l with
 | nil=>intro s _ a x b e;cases a <;> cases e
 | cons y l ih=>
  intro s h a x b e
  simp only [uO]at h
  split at h
  ·cases h
  ·rename_i hy
   cases a with
   | nil=>cases e;simpa [← kW]using hy
   | cons z a=>
    cases e
    have:=ih (s++ [y]) h a x b rfl
    simpa using this
end Go.Abs
