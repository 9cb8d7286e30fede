/-
  What is proved here: part 2 of the road to the claim (Flat2, Flat3, Sl1, MirFlat2, Sl2, TMay1, TMay2, RefMay3, RefMay4, TMay3, TMay4, MayFine, MayEq, Nm1, Nm2, Nm3, MayEq2, Tree1, Tree2, Sc1, Sc2, Sc3, ScP, Sc4, Rng, FineM, Sc5, Ar1, Ar2, Ar3, Srt1, Shelf, SortR, SrtP, Tc1, Tc2, Tc3, Bsl, Tc4, Tc5).
  No conditions.
-/
import Derived.Test.YthecipohmaannaaAgA1
import Derived.Shelf.Small.Bits
import Derived.Shelf.Strconv.Itoa0
import Derived.Shelf.Sort.Plain
import Derived.Shelf.Slices.Turned
import Derived.Shelf.Slices.CompactS
import Derived.Shelf.Slices.Cells
import Derived.Shelf.Slices.In.SortNone
import Derived.Test.YthecipohmaannaaProg
import Derived.Sort.Walk0

set_option linter.unusedSimpArgs false
set_option linter.unusedVariables false

/-! Flat2 -/

namespace Go.Abs
set_option maxRecDepth 8000
open Go.Proofs
abbrev fD (g ps:D) (L:List Im) (lo hi:List Int):List D:= [g,ps, .slice (.tok 0) 17 (L.map ef), .slice (.tok 1) 1 (lo.map fl), .slice (.tok 2) 1 (hi.map fl)]
abbrev JC (proc up next loop:Int):List D:= [.int .i64 0, .int .i64 0, .slice .full 0 [], .str [], .str [], .int .i64 0, .int .i64 0, .str [], .slice .full 0 [], .bool false, .slice .full 0 [], .slice .full 0 [], .slice .full 0 [], .int .i64 proc, .int .i64 up, .int .i64 next, .int .i64 loop]
theorem aI.QY {P:Program} {f:Nat} {args:List D} {g ps:D} {L L':List Im} {lo hi yl fW:List Int} {a b c a' b' c':Option Nat}
 (h:aI P f (.ptr 0 0::args) ⟨[fD g ps L lo hi],[a,b,c]⟩ (.tuple []) ⟨[fD g ps L' yl fW],[a',b',c']⟩)
 (ha:D.bE 0 0 args=true) (hg:D.ok 0 0 g=true) (hp:D.ok 0 0 ps=true)
 {s:St} {o:Nat} (ho:s.au[o]? = some (fD g ps L lo hi)) (ht:s.av = [a,b,c]):aI P f (.ptr o 0::args) s (.tuple []) ⟨s.au.set o (fD g ps L' yl fW),[a',b',c']⟩:=by
 have hr : ∀ (L:List Im) (lo hi:List Int),D.e7 [o] [0,1,2] (fD g ps L lo hi)=fD g ps L lo hi:=fun L lo hi=>by
  simp [D.e7,D.cU,Tag.cU,nF _ _ _ hg,nF _ _ _ hp,jS _ _ _ (zN L),jS _ _ _ (pM lo),jS _ _ _ (pM hi)]
 have hk : ∀ (L:List Im) (lo hi:List Int),D.bE 1 3 (fD g ps L lo hi)=true:=fun L lo hi=>by
  simp [D.bE,D.ok,Tag.ok,xE (Nat.zero_le 1) (Nat.zero_le 3) _ hg,xE (Nat.zero_le 1) (Nat.zero_le 3) _ hp,lV (Nat.zero_le 1) (Nat.zero_le 3) _ (zN L),lV (Nat.zero_le 1) (Nat.zero_le 3) _ (pM lo),lV (Nat.zero_le 1) (Nat.zero_le 3) _ (pM hi)]
 refine dA.frame [o] [0,1,2] h (by simp) (by decide) (by simpa using (List.getElem?_eq_some_iff.1 ho).1) (by rw [ht];simp) rfl (fun i o' ds e1 e2=> ?_) rfl (fun i t' e1=> ?_)
  (by simp [D.e7,D.cU,e8 _ _ _ ha])
  (by simp [D.bE,D.ok,gF (Nat.zero_le 1) (Nat.zero_le 3) _ ha]) ?_
 ·cases i with
  | zero=>simp only [List.getElem?_cons_zero,Option.some.injEq]at e1 e2;subst e1;subst e2;exact⟨by rw [hr];exact ho,hk L lo hi⟩
  | succ i=>simp at e1
 ·rw [ht]
  match i,e1 with
  | 0,e1=>simp at e1;subst e1;rfl
  | 1,e1=>simp at e1;subst e1;rfl
  | 2,e1=>simp at e1;subst e1;rfl
  | i+3,e1=>simp at e1
 ·rintro _ _ ⟨rfl,rfl⟩
  refine⟨by simp [D.back,D.cU,D.e7], ?_⟩
  have:=hr L' yl fW
  simp [St.back,iz,iM,this,ht]
abbrev Lh (N:Nat):Prop:=∀ (l:List Sm) (proc up next loop:Int) (out:List Im) (g ps:D) (lo hi:List Int) (b c:Option Nat),Sm.aS l<N→out.length+Sm.fY l<1000000000→D.ok 0 0 g=true→D.ok 0 0 ps=true→
 ∀ {s:St} {o:Nat},s.au[o]? = some (fD g ps out lo hi)→s.av = [some out.length,b,c]→
 aI Try.prog gl [.ptr o 0, .slice .shared 13 (l.map bd), .agg (JC proc up next loop)] s (.tuple []) ⟨s.au.set o (fD g ps (Im.rows proc up next loop out l) lo hi),[some (Im.rows proc up next loop out l).length,b,c]⟩
theorem QZ {N:Nat} (ih:Lh N) {l:List Sm} {proc up next loop:Int} {out:List Im} {g ps:D} {lo hi:List Int} {b c:Option Nat} (hs:Sm.aS l<N+1) (hc:out.length+Sm.fY l<1000000000) (hg:D.ok 0 0 g=true) (hp:D.ok 0 0 ps=true) (hN:N<1000000000) :
 aI Try.prog gl [.ptr 0 0, .slice .shared 13 (l.map bd), .agg (JC proc up next loop)] ⟨[fD g ps out lo hi],[some out.length,b,c]⟩ (.tuple []) ⟨[fD g ps (Im.rows proc up next loop out l) lo hi],[some (Im.rows proc up next loop out l).length,b,c]⟩:=by
 obtain⟨R,hR⟩ : ∃ R,R=Im.rows proc up next loop out l:=⟨_,rfl⟩
 have hlR:R.length=out.length+Sm.fY l:=by rw [hR,eI]
 rw [← hR]
 have k1 : ∀ n m,D.fg n m g=g:=fun n m=>EH n m _ hg
 have k2 : ∀ n m,D.fg n m ps=ps:=fun n m=>EH n m _ hp
 refine aI.go tV rfl fun B Q hB hQ=> ?_
 have⟨hD,hJ,hP,hY⟩:=bZ
 repeat' (first
 | simp only [go_sem,hD,hJ,hP,hY,k1,k2]
 | (with_reducible first | refine cy fun hc=> ?_ | refine cz fun hc=> ?_ | refine cA (fun hc=> ?_) fun hc=> ?_) <;> (try simp only [hc,bs, ↓reduceIte]at h) <;> try simp only [hc]
 | (with_reducible refine aJ hQ ?_;simp only [ay,az,c9,da,go_sem,hD,hJ,hP,hY,k1,k2];repeat' (first | exact Ok.out | with_reducible refine aM ?_ ?_ | (simp;done))))
 refine dn 2 3 ?_ ?_ (bp.ind (ι:=List Sm×Nat×List Im) (fun i=>l.drop i.2.1=i.1∧Im.rows proc up next loop i.2.2 i.1=R∧i.2.2.length+Sm.fY i.1=out.length+Sm.fY l) (fun i=>i.1.length)
  (fun i=> [(0, .ptr 0 0),(1, .slice .shared 13 (l.map bd)),(5, .ptr 1 0),(11, .slice .shared 13 (l.map bd)),(12, .int .i64 (l.length:Int)),(13, .int .i64 (i.2.1:Int))]) (fun i=>⟨[fD g ps i.2.2 lo hi,JC proc up next loop],[some i.2.2.length,b,c]⟩) ?_ (l,0,out) ⟨rfl,hR.symm,rfl⟩)
 ·(simp only [go_sem,hD,hJ,hP,hY,k1,k2];try exact bo)
 ·(simp only [go_sem,hD,hJ,hP,hY,k1,k2];try exact bo)
 rintro⟨rest,k,bw⟩ ⟨h1,h2,h3⟩ IH
 dsimp only at h1 h2 h3
 have hlen:l.length<1000000000:=by have:=Sm.cZ l;omega
 cases rest with
 | nil=>
  have hD:=drop_nil h1
  simp only [Im.rows]at h2
  subst h2
  repeat' (first
 | simp only [go_sem,hD,hJ,hP,hY,k1,k2]
 | (with_reducible first | refine cy fun hc=> ?_ | refine cz fun hc=> ?_ | refine cA (fun hc=> ?_) fun hc=> ?_) <;> (try simp only [hc,bs, ↓reduceIte]at h) <;> try simp only [hc]
 | (with_reducible refine aJ hQ ?_;simp only [ay,az,c9,da,go_sem,hD,hJ,hP,hY,k1,k2];repeat' (first | exact Ok.out | with_reducible refine aM ?_ ?_ | (simp;done))))
 | cons v rest=>
  obtain⟨hJ,g2,hD,g4⟩:=drop_cons h1
  have bq:k<4611686018427387904:=by omega
  have hv:=Sm.b7 (List.mem_of_getElem? hJ)
  have kU:Sm.aS v.aZ<N∧Sm.aS v.aQ<N∧v.gp=1+Sm.fY v.aZ+Sm.fY v.aQ:=by
   obtain⟨_,_,_,_,_,_,_,_,_,_⟩:=v
   simp only [Sm.size]at hv
   exact⟨by dsimp only;omega,by dsimp only;omega,rfl⟩
  obtain⟨wu,Ah,hv3⟩:=kU
  simp only [Sm.fY]at h3
  simp only [Im.rows,Im.Oj]at h2
  have hP:(bw.length+1)*241≤bF:=by unfold bF;omega
  have CD:IntKind.wrap .i64 ((bw.length:Int)+1)=(bw.length:Int)+1:=dj (by omega) (by omega)
  have qs:IntKind.wrap .i64 ((k:Int)+1)=((k+1:Nat):Int):=by rw [dj] <;> omega
  have Li:IntKind.wrap .i64 ((bw.length:Int)+1+(v.gp:Int))=(bw.length:Int)+1+(v.gp:Int):=dj (by omega) (by omega)
  have dJ:=fun s=>OR (v:=v) (by omega) s
  simp only [cB]at dJ
  have Fv:rest.length=l.length - (k+1):=by rw [← g2,List.length_drop]
  by_cases abw:k+1<l.length
  ·have d1:decide (((k+1:Nat):Int)<(l.length:Int))=true:=by simp;omega
   have e1:(rest.length=0)=False:=by simp;intro h;rw [h]at Fv;simp at Fv;omega
   by_cases G1:v.kind=6
   ·have d2:(v.kind==6)=true:=by simp [G1]
    simp only [e1,d2, ↓reduceIte,Bool.false_eq_true]at h2
    have f1:=fun {s:St} {o:Nat}=>@ih v.aZ proc ((bw.length:Int)+1) ((bw.length:Int)+1) ((bw.length:Int)+1) (bw++ [⟨v,proc,up,((bw.length:Int)+1+(v.gp:Int)),loop⟩]) g ps lo hi b c wu (by simp;omega) hg hp s o
    have f2:=fun {s:St} {o:Nat}=>@ih v.aQ proc ((bw.length:Int)+1) ((bw.length:Int)+1) ((bw.length:Int)+1) _ g ps lo hi b c Ah (by rw [eI proc ((bw.length:Int)+1) ((bw.length:Int)+1) ((bw.length:Int)+1) (bw++ [⟨v,proc,up,((bw.length:Int)+1+(v.gp:Int)),loop⟩]) v.aZ];simp;omega) hg hp s o
    have hl:(Im.rows proc ((bw.length:Int)+1) ((bw.length:Int)+1) ((bw.length:Int)+1) (Im.rows proc ((bw.length:Int)+1) ((bw.length:Int)+1) ((bw.length:Int)+1) (bw++ [⟨v,proc,up,((bw.length:Int)+1+(v.gp:Int)),loop⟩]) v.aZ) v.aQ).length=bw.length+v.gp:=by rw [eI,eI];simp;omega
    simp only [fD,List.map_append,List.map_cons,List.map_nil,EX,List.length_append,List.length_cons,List.length_nil]at f1
    repeat' (first
 | simp only [go_sem,hD,hJ,hP,hY,k1,k2,CD,qs,Li,d1,d2,cB]
 | (with_reducible refine CU (dJ _) ?_)
 | (with_reducible refine CU (f1 (by with_unfolding_all rfl) (by with_unfolding_all rfl)) ?_)
 | (with_reducible refine CU (f2 (by with_unfolding_all rfl) (by with_unfolding_all rfl)) ?_)
 | (with_reducible refine aJ hQ ?_;simp only [ay,az,c9,da,go_sem,hD,hJ,hP,hY];repeat' (first | exact Ok.out | with_reducible refine aM ?_ ?_ | (simp;done))))
    refine dn 2 3 ?_ ?_ (IH (rest,k+1,_) ⟨g2,h2,by dsimp only;rw [hl];omega⟩ (Nat.lt_succ_self _))
    ·(simp only [go_sem,hD,hJ,hP,hY,qs,k1,k2];try exact bo)
    ·(simp only [go_sem,hD,hJ,hP,hY,qs,k1,k2];try exact bo)
   ·have d2:(v.kind==6)=false:=by simp [G1]
    simp only [e1,d2, ↓reduceIte,Bool.false_eq_true]at h2
    have f1:=fun {s:St} {o:Nat}=>@ih v.aZ proc ((bw.length:Int)+1) ((bw.length:Int)+1+(v.gp:Int)) loop (bw++ [⟨v,proc,up,((bw.length:Int)+1+(v.gp:Int)),loop⟩]) g ps lo hi b c wu (by simp;omega) hg hp s o
    have f2:=fun {s:St} {o:Nat}=>@ih v.aQ proc ((bw.length:Int)+1) ((bw.length:Int)+1+(v.gp:Int)) loop _ g ps lo hi b c Ah (by rw [eI proc ((bw.length:Int)+1) ((bw.length:Int)+1+(v.gp:Int)) loop (bw++ [⟨v,proc,up,((bw.length:Int)+1+(v.gp:Int)),loop⟩]) v.aZ];simp;omega) hg hp s o
    have hl:(Im.rows proc ((bw.length:Int)+1) ((bw.length:Int)+1+(v.gp:Int)) loop (Im.rows proc ((bw.length:Int)+1) ((bw.length:Int)+1+(v.gp:Int)) loop (bw++ [⟨v,proc,up,((bw.length:Int)+1+(v.gp:Int)),loop⟩]) v.aZ) v.aQ).length=bw.length+v.gp:=by rw [eI,eI];simp;omega
    simp only [fD,List.map_append,List.map_cons,List.map_nil,EX,List.length_append,List.length_cons,List.length_nil]at f1
    repeat' (first
 | simp only [go_sem,hD,hJ,hP,hY,k1,k2,CD,qs,Li,d1,d2,cB]
 | (with_reducible refine CU (dJ _) ?_)
 | (with_reducible refine CU (f1 (by with_unfolding_all rfl) (by with_unfolding_all rfl)) ?_)
 | (with_reducible refine CU (f2 (by with_unfolding_all rfl) (by with_unfolding_all rfl)) ?_)
 | (with_reducible refine aJ hQ ?_;simp only [ay,az,c9,da,go_sem,hD,hJ,hP,hY];repeat' (first | exact Ok.out | with_reducible refine aM ?_ ?_ | (simp;done))))
    refine dn 2 3 ?_ ?_ (IH (rest,k+1,_) ⟨g2,h2,by dsimp only;rw [hl];omega⟩ (Nat.lt_succ_self _))
    ·(simp only [go_sem,hD,hJ,hP,hY,qs,k1,k2];try exact bo)
    ·(simp only [go_sem,hD,hJ,hP,hY,qs,k1,k2];try exact bo)
  ·have d1:decide (((k+1:Nat):Int)<(l.length:Int))=false:=by simp;omega
   have e1:(rest.length=0)=True:=by simp only [eq_iff_iff,iff_true];omega
   by_cases G1:v.kind=6
   ·have d2:(v.kind==6)=true:=by simp [G1]
    simp only [e1,d2, ↓reduceIte,Bool.false_eq_true]at h2
    have f1:=fun {s:St} {o:Nat}=>@ih v.aZ proc ((bw.length:Int)+1) ((bw.length:Int)+1) ((bw.length:Int)+1) (bw++ [⟨v,proc,up,next,loop⟩]) g ps lo hi b c wu (by simp;omega) hg hp s o
    have f2:=fun {s:St} {o:Nat}=>@ih v.aQ proc ((bw.length:Int)+1) ((bw.length:Int)+1) ((bw.length:Int)+1) _ g ps lo hi b c Ah (by rw [eI proc ((bw.length:Int)+1) ((bw.length:Int)+1) ((bw.length:Int)+1) (bw++ [⟨v,proc,up,next,loop⟩]) v.aZ];simp;omega) hg hp s o
    have hl:(Im.rows proc ((bw.length:Int)+1) ((bw.length:Int)+1) ((bw.length:Int)+1) (Im.rows proc ((bw.length:Int)+1) ((bw.length:Int)+1) ((bw.length:Int)+1) (bw++ [⟨v,proc,up,next,loop⟩]) v.aZ) v.aQ).length=bw.length+v.gp:=by rw [eI,eI];simp;omega
    simp only [fD,List.map_append,List.map_cons,List.map_nil,EX,List.length_append,List.length_cons,List.length_nil]at f1
    repeat' (first
 | simp only [go_sem,hD,hJ,hP,hY,k1,k2,CD,qs,Li,d1,d2,cB]
 | (with_reducible refine CU (dJ _) ?_)
 | (with_reducible refine CU (f1 (by with_unfolding_all rfl) (by with_unfolding_all rfl)) ?_)
 | (with_reducible refine CU (f2 (by with_unfolding_all rfl) (by with_unfolding_all rfl)) ?_)
 | (with_reducible refine aJ hQ ?_;simp only [ay,az,c9,da,go_sem,hD,hJ,hP,hY];repeat' (first | exact Ok.out | with_reducible refine aM ?_ ?_ | (simp;done))))
    refine dn 2 3 ?_ ?_ (IH (rest,k+1,_) ⟨g2,h2,by dsimp only;rw [hl];omega⟩ (Nat.lt_succ_self _))
    ·(simp only [go_sem,hD,hJ,hP,hY,qs,k1,k2];try exact bo)
    ·(simp only [go_sem,hD,hJ,hP,hY,qs,k1,k2];try exact bo)
   ·have d2:(v.kind==6)=false:=by simp [G1]
    simp only [e1,d2, ↓reduceIte,Bool.false_eq_true]at h2
    have f1:=fun {s:St} {o:Nat}=>@ih v.aZ proc ((bw.length:Int)+1) next loop (bw++ [⟨v,proc,up,next,loop⟩]) g ps lo hi b c wu (by simp;omega) hg hp s o
    have f2:=fun {s:St} {o:Nat}=>@ih v.aQ proc ((bw.length:Int)+1) next loop _ g ps lo hi b c Ah (by rw [eI proc ((bw.length:Int)+1) next loop (bw++ [⟨v,proc,up,next,loop⟩]) v.aZ];simp;omega) hg hp s o
    have hl:(Im.rows proc ((bw.length:Int)+1) next loop (Im.rows proc ((bw.length:Int)+1) next loop (bw++ [⟨v,proc,up,next,loop⟩]) v.aZ) v.aQ).length=bw.length+v.gp:=by rw [eI,eI];simp;omega
    simp only [fD,List.map_append,List.map_cons,List.map_nil,EX,List.length_append,List.length_cons,List.length_nil]at f1
    repeat' (first
 | simp only [go_sem,hD,hJ,hP,hY,k1,k2,CD,qs,Li,d1,d2,cB]
 | (with_reducible refine CU (dJ _) ?_)
 | (with_reducible refine CU (f1 (by with_unfolding_all rfl) (by with_unfolding_all rfl)) ?_)
 | (with_reducible refine CU (f2 (by with_unfolding_all rfl) (by with_unfolding_all rfl)) ?_)
 | (with_reducible refine aJ hQ ?_;simp only [ay,az,c9,da,go_sem,hD,hJ,hP,hY];repeat' (first | exact Ok.out | with_reducible refine aM ?_ ?_ | (simp;done))))
    refine dn 2 3 ?_ ?_ (IH (rest,k+1,_) ⟨g2,h2,by dsimp only;rw [hl];omega⟩ (Nat.lt_succ_self _))
    ·(simp only [go_sem,hD,hJ,hP,hY,qs,k1,k2];try exact bo)
    ·(simp only [go_sem,hD,hJ,hP,hY,qs,k1,k2];try exact bo)
theorem Mm : ∀ N,N<1000000000→Lh N:=by
 intro N
 induction N with
 | zero=>exact fun _ l proc up next loop out g ps lo hi b c h=>absurd h (Nat.not_lt_zero _)
 | succ N ih=>
  intro h l proc up next loop out g ps lo hi b c hs hc hg hp s o ho ht
  exact(QZ (ih (by omega)) hs hc hg hp (by omega)).QY (by simp [D.bE,D.ok,Tag.ok,o6,D.gM]) hg hp ho ht
end Go.Abs

/-! Flat3 -/

namespace Go.Abs
set_option maxRecDepth 8000
open Go.Proofs
def iF (p:Pg):List D:= [.slice .shared 1 (p.globals.map encStr), .slice .shared 5 (p.procs.map bL), .slice .shared 17 (p.dQ.L.map ef), .slice .shared 1 (p.dQ.lo.map fl), .slice .shared 1 (p.dQ.hi.map fl)]
theorem sh (p:Pg):iF p = [.slice .shared 1 (p.globals.map encStr), .slice .shared 5 (p.procs.map bL), .slice .shared 17 (p.dQ.L.map ef), .slice .shared 1 (p.dQ.lo.map fl), .slice .shared 1 (p.dQ.hi.map fl)]:=nd rfl
theorem xT (p:Pg):D.bE 0 0 (iF p)=true:=by simp [iF,D.bE,D.ok,Tag.ok,e9,zM,zN,pM]
theorem wP (p:Pg):bN p = [.slice .shared 1 (p.globals.map encStr), .slice .shared 5 (p.procs.map bL)]:=nd rfl
theorem Q1 {p:Pg} (hs:Pc.aS p.procs<1000000000):aI Try.prog jY [.agg (bN p)] S0 (.ptr 1 0) ⟨[bN p,fD (.slice .shared 1 (p.globals.map encStr)) (.slice .shared 5 (p.procs.map bL)) p.dQ.L p.dQ.lo p.dQ.hi],[some p.dQ.L.length,some p.dQ.lo.length,some p.dQ.hi.length]⟩:=by
 have hlen:p.procs.length<1000000000:=by have:=Pc.cZ p.procs;omega
 obtain⟨R,hR⟩ : ∃ R,R=p.dQ:=⟨_,rfl⟩
 have RZ:=hR
 unfold Pg.dQ at RZ
 unfold S0
 rw [wP, ← hR]
 refine aI.goK 2 3 (Nat.zero_le _) (Nat.zero_le _) A7 rfl fun B Q hB hQ=> ?_
 have⟨hD,hJ,hP,hY⟩:=bZ
 repeat' (first
 | simp only [go_sem,hD,hJ,hP,hY,wP]
 | (with_reducible refine aJ hQ ?_;simp only [ay,az,Option.some.injEq,exists_eq_left',go_sem,hD,hJ,hP,hY];repeat' (first | exact Ok.out | with_reducible refine aM ?_ ?_ | (simp;done))))
 refine bp.IB 1 2 17 rfl rfl ?_
 simp only [go_sem,hD,hJ,hP,hY]
 refine bp.IB 1 3 1 rfl rfl ?_
 simp only [go_sem,hD,hJ,hP,hY]
 refine bp.IB 1 4 1 rfl rfl ?_
 simp only [go_sem,hD,hJ,hP,hY]
 refine dn 2 3 ?_ ?_ (bp.ind (ι:=List Pc×Nat×Sh×Nat×Nat) (fun i=>p.procs.drop i.2.1=i.1∧Sh.go i.2.1 i.2.2.1 i.1=R∧i.2.2.1.L.length+Pc.aS i.1≤Pc.aS p.procs∧i.2.2.1.lo.length=i.2.1∧i.2.2.1.hi.length=i.2.1∧i.2.2.2.1=i.2.2.1.lo.length∧i.2.2.2.2=i.2.2.1.hi.length) (fun i=>i.1.length)
  (fun i=> [(1, .ptr 0 0),(3, .ptr 1 0),(10, .slice .shared 5 (p.procs.map bL)),(11, .int .i64 (p.procs.length:Int)),(12, .int .i64 (i.2.1:Int))]) (fun i=>⟨[[.slice .shared 1 (p.globals.map encStr), .slice .shared 5 (p.procs.map bL)],fD (.slice .shared 1 (p.globals.map encStr)) (.slice .shared 5 (p.procs.map bL)) i.2.2.1.L i.2.2.1.lo i.2.2.1.hi],[some i.2.2.1.L.length,some i.2.2.2.1,some i.2.2.2.2]⟩) ?_ (p.procs,0,⟨[],[],[]⟩,0,0) ⟨rfl,RZ.symm,by simp,rfl,rfl,rfl,rfl⟩)
 ·(simp only [go_sem,hD,hJ,hP,hY,fD];try exact bo)
 ·(simp only [go_sem,hD,hJ,hP,hY,fD];try exact bo)
 rintro⟨rest,k,h,n1,n2⟩ ⟨h1,h2,h3,h4,h5,h6,h7⟩ IH
 dsimp only at h1 h2 h3 h4 h5 h6 h7
 subst h6 h7
 cases rest with
 | nil=>
  have hD:=drop_nil h1
  simp only [Sh.go]at h2
  rw [← h2]at hQ
  repeat' (first
 | simp only [go_sem,hD,hJ,hP,hY,fD]
 | (with_reducible refine aJ hQ ?_;simp only [ay,az,Option.some.injEq,exists_eq_left',go_sem,hD,hJ,hP,hY];repeat' (first | exact Ok.out | with_reducible refine aM ?_ ?_ | (simp;done))))
 | cons f rest=>
  obtain⟨hJ,g2,hD,g4⟩:=drop_cons h1
  have bq:k<4611686018427387904:=by omega
  simp only [Pc.aS,Pc.size]at h3
  simp only [Sh.go]at h2
  have c1:=kZ f.body
  have hP:(h.lo.length+1)*9≤bF:=by unfold bF;omega
  have T2:(h.hi.length+1)*9≤bF:=by unfold bF;omega
  have CD:IntKind.wrap .i64 ((h.L.length:Int)+1)=(h.L.length:Int)+1:=dj (by omega) (by omega)
  have hl:(Im.rows (k:Int) 0 (-1) 0 h.L f.body).length=h.L.length+Sm.fY f.body:=eI ..
  have qs:IntKind.wrap .i64 (((Im.rows (k:Int) 0 (-1) 0 h.L f.body).length:Int)+1)=((Im.rows (k:Int) 0 (-1) 0 h.L f.body).length:Int)+1:=dj (by omega) (by omega)
  have hr:=fun {s:St} {o:Nat}=>@Mm (Sm.aS f.body+1) (by omega) f.body (k:Int) 0 (-1) 0 h.L (.slice .shared 1 (p.globals.map encStr)) (.slice .shared 5 (p.procs.map bL)) (h.lo++ [(h.L.length:Int)+1]) h.hi (some (h.lo.length+1)) (some h.hi.length) (Nat.lt_succ_self _) (by omega) (by simp [D.ok,Tag.ok,e9]) (by simp [D.ok,Tag.ok,zM]) s o
  simp only [fD,List.map_append,List.map_cons,List.map_nil,fl]at hr
  repeat' (first
 | simp only [go_sem,hD,hJ,hP,hY,CD,qs,T2,fD]
 | (with_reducible refine CU (hr (by with_unfolding_all rfl) (by with_unfolding_all rfl)) ?_)
 | (with_reducible refine aJ hQ ?_;simp only [ay,az,Option.some.injEq,exists_eq_left',go_sem,hD,hJ,hP,hY];repeat' (first | exact Ok.out | with_reducible refine aM ?_ ?_ | (simp;done))))
  refine dn 2 3 ?_ ?_ (IH (rest,k+1,⟨Im.rows (k:Int) 0 (-1) 0 h.L f.body,h.lo++ [(h.L.length:Int)+1],h.hi++ [((Im.rows (k:Int) 0 (-1) 0 h.L f.body).length:Int)+1]⟩,_,_) ⟨g2,h2,by dsimp only;rw [hl];omega,by simp [h4],by simp [h5],by simp,by simp⟩ (Nat.lt_succ_self _))
  ·(simp only [go_sem,hD,hJ,hP,hY,fD,aF bq,List.map_append,List.map_cons,List.map_nil,fl];try exact bo)
  ·(simp only [go_sem,hD,hJ,hP,hY,fD,aF bq,List.map_append,List.map_cons,List.map_nil,fl];try exact bo)
theorem zO {p:Pg} (hs:Pc.aS p.procs<1000000000) (s:St):aI Try.prog jY [.agg (bN p)] s (.cV (iF p) 0) s:=by
 refine aI.pure ?_ (by simp only [D.bE,D.ok,jh];rfl) (by simp only [D.ok,xT]) s
 have h:=(Q1 hs).s8 (n:=0) (m:=0) rfl (Nat.le_refl _) (Nat.zero_le _) (Nat.le_refl _)
 simpa [D.fk,D.fg,Tag.fg,GM,K5,Lf,G0,St.cut,iF,S0]using h
end Go.Abs

/-! Sl1 -/

namespace Go.Abs
set_option maxRecDepth 8000
open Go.Proofs
def kB (x:aD) (k:Int):List aD→Int
 | []=> -1
 | s::l=>if x==s then k else kB x (k+1) l
def dG (l:List aD) (x:aD):Bool:=decide (kB x 0 l≥0)
def jl {α:Type} (b:α→Bool) (k:Int):List α→Int
 | []=> -1
 | s::l=>if b s then k else jl b (k+1) l
theorem CF (x:aD) : ∀ (l:List aD) (k:Int),0≤k→(kB x k l≥0↔x∈l)
 | [],k,h=>by simp [kB]
 | s::l,k,h=>by
  by_cases e:x=s
  ·simp [kB,e];omega
  ·have e':(x==s)=false:=by simp [e]
   simp only [kB,e',Bool.false_eq_true,if_false,List.mem_cons,e,false_or]
   exact CF x l (k+1) (by omega)
theorem jm (l:List aD) (x:aD):dG l x=true↔x∈l:=by
 simp only [dG,decide_eq_true_eq];exact CF x l 0 (Int.le_refl 0)
theorem xU {α:Type} (b:α→Bool) : ∀ (l:List α) (k:Int),0≤k→(jl b k l≥0↔l.any b=true)
 | [],k,h=>by simp [jl]
 | s::l,k,h=>by
  by_cases e:b s=true
  ·simp [jl,e];omega
  ·have e':b s=false:=by simpa using e
   simp only [jl,e',Bool.false_eq_true,if_false,List.any_cons,Bool.or_eq_true,false_or]
   exact xU b l (k+1) (by omega)
theorem CG {l:List aD} (hl:l.length<4611686018427387904) (x:aD) (s:St):aI Try.prog fL [.slice .shared 1 (l.map encStr), .str x] s (.int .i64 (kB x 0 l)) s:=by
 refine aI.pure ?_ (by simp [D.bE,D.ok,Tag.ok,e9]) rfl s
 generalize h:kB x 0 l=p
 unfold S0
 refine aI.go pX rfl fun B Q hB hQ=> ?_
 have⟨hD,hJ,hP,hY⟩:=bZ
 repeat' (first
 | simp only [go_sem,hD,hJ,hP,hY]
 | (with_reducible first | refine cy fun hc=> ?_ | refine cz fun hc=> ?_ | refine cA (fun hc=> ?_) fun hc=> ?_) <;> (try simp only [hc,bs, ↓reduceIte]at h) <;> try simp only [hc]
 | (with_reducible refine aJ hQ ?_;(try cases h);simp only [ay,az,c9,da,go_sem,hD,hJ,hP,hY];repeat' (first | exact Ok.out | with_reducible refine aM ?_ ?_ | (simp;done))))
 refine dD 0 0 (bp.ind (ι:=List aD×Nat) (fun i=>l.drop i.2=i.1∧kB x (i.2:Int) i.1=p) (fun i=>i.1.length)
  (fun i=> [(0, .slice .shared 1 (l.map encStr)),(1, .str x),(7, .int .i64 (l.length:Int)),(8, .int .i64 (i.2:Int))]) (fun i=>⟨[],[]⟩) ?_ (l,0) ⟨rfl,h⟩)
 rintro⟨rest,k⟩ ⟨h1,h⟩ IH
 dsimp only at h1 h
 cases rest with
 | nil=>
  have hD:=drop_nil h1
  simp only [kB]at h
  repeat' (first
 | simp only [go_sem,hD,hJ,hP,hY]
 | (with_reducible first | refine cy fun hc=> ?_ | refine cz fun hc=> ?_ | refine cA (fun hc=> ?_) fun hc=> ?_) <;> (try simp only [hc,bs, ↓reduceIte]at h) <;> try simp only [hc]
 | (with_reducible refine aJ hQ ?_;(try cases h);simp only [ay,az,c9,da,go_sem,hD,hJ,hP,hY];repeat' (first | exact Ok.out | with_reducible refine aM ?_ ?_ | (simp;done))))
 | cons a rest=>
  obtain⟨hJ,g2,hD,g4⟩:=drop_cons h1
  have bq:k<4611686018427387904:=by omega
  simp only [kB]at h
  repeat' (first
 | simp only [go_sem,hD,hJ,hP,hY]
 | (with_reducible first | refine cy fun hc=> ?_ | refine cz fun hc=> ?_ | refine cA (fun hc=> ?_) fun hc=> ?_) <;> (try simp only [hc,bs, ↓reduceIte]at h) <;> try simp only [hc]
 | (with_reducible refine aJ hQ ?_;(try cases h);simp only [ay,az,c9,da,go_sem,hD,hJ,hP,hY];repeat' (first | exact Ok.out | with_reducible refine aM ?_ ?_ | (simp;done))))
  refine dn 0 0 ?_ ?_ (IH (rest,k+1) ⟨g2,h⟩ (Nat.lt_succ_self _))
  ·(simp only [go_sem,hD,hJ,hP,hY,aF bq];try exact bo)
  ·(simp only [go_sem,hD,hJ,hP,hY,aF bq];try exact bo)
theorem si {l:List aD} (hl:l.length<4611686018427387904) (x:aD) (s:St):aI Try.prog bH [.slice .shared 1 (l.map encStr), .str x] s (.bool (dG l x)) s:=by
 refine aI.pure ?_ (by simp [D.bE,D.ok,Tag.ok,e9]) rfl s
 have hi:=fun s=>CG hl x s
 unfold S0
 refine aI.go oM rfl fun B Q hB hQ=> ?_
 have⟨hD,hJ,hP,hY⟩:=bZ
 repeat' (first
 | simp only [go_sem,hD,hJ,hP,hY,dG]
 | (with_reducible refine CU (hi _) ?_)
 | (with_reducible first | refine cy fun hc=> ?_ | refine cz fun hc=> ?_ | refine cA (fun hc=> ?_) fun hc=> ?_) <;> (try simp only [hc,bs, ↓reduceIte]at h) <;> try simp only [hc]
 | (with_reducible refine aJ hQ ?_;simp only [ay,az,c9,da,go_sem,hD,hJ,hP,hY,dG];repeat' (first | exact Ok.out | with_reducible refine aM ?_ ?_ | (simp;done))))
theorem aI.CH {P:Program} {f:Nat} {d d':D} {r:List D} {s s':St} {x:D} (h:aI P f (d'::r) s x s') (hw:Wk d d'):aI P f (d::r) s x s':=dA.Au (.cons hw (jB.refl r)) h
theorem gu {l:List aD} (hl:l.length<4611686018427387904) (x:aD) (g:Tag) (s:St):aI Try.prog bH [.slice g 1 (l.map encStr), .str x] s (.bool (dG l x)) s:=
 (si hl x s).CH (Wk.shared _ _ _)
theorem Bb (x:aD) (z:Nat) (g:Tag) (s:St):aI Try.prog bH [.slice g z [], .str x] s (.bool false) s:=
 (si (l:= []) (by simp) x s).CH (Wk.nil _ _ _)
theorem tX {l:List aD} (hl:l.length<4611686018427387904) {f:Nat} {row:List D} {b:aD→Bool} (oT:D.bE 0 0 row=true) (he:enters Try.prog f=true)
 (hb : ∀ x∈l,aI Try.prog f ([.str x]++ [.ptr 0 0]) ⟨[row],[]⟩ (.bool (b x)) ⟨[row],[]⟩) :
 aI Try.prog gS [.slice .shared 1 (l.map encStr), .eW f [.ptr 0 0]] ⟨[row],[]⟩ (.int .i64 (jl b 0 l)) ⟨[row],[]⟩:=by
 generalize h:jl b 0 l=p
 have k1 : ∀ n m,D.fk n m row=row:=fun n m=>fw n m _ oT
 refine aI.go ov rfl fun B Q hB hQ=> ?_
 have⟨hD,hJ,hP,hY⟩:=bZ
 repeat' (first
 | simp only [go_sem,hD,hJ,hP,hY,k1]
 | (with_reducible first | refine cy fun hc=> ?_ | refine cz fun hc=> ?_ | refine cA (fun hc=> ?_) fun hc=> ?_) <;> (try simp only [hc,bs, ↓reduceIte]at h) <;> try simp only [hc]
 | (with_reducible refine aJ hQ ?_;(try cases h);simp only [ay,az,c9,da,go_sem,hD,hJ,hP,hY,k1];repeat' (first | exact Ok.out | with_reducible refine aM ?_ ?_ | (simp;done))))
 refine dn 1 0 ?_ ?_ (bp.ind (ι:=List aD×Nat) (fun i=>l.drop i.2=i.1∧jl b (i.2:Int) i.1=p) (fun i=>i.1.length)
  (fun i=> [(0, .slice .shared 1 (l.map encStr)),(1, .eW f [.ptr 0 0]),(7, .int .i64 (l.length:Int)),(8, .int .i64 (i.2:Int))]) (fun i=>⟨[row],[]⟩) ?_ (l,0) ⟨rfl,h⟩)
 ·(simp only [go_sem,hD,hJ,hP,hY,k1];try exact bo)
 ·(simp only [go_sem,hD,hJ,hP,hY,k1];try exact bo)
 rintro⟨rest,k⟩ ⟨h1,h⟩ IH
 dsimp only at h1 h
 cases rest with
 | nil=>
  have hD:=drop_nil h1
  simp only [jl]at h
  repeat' (first
 | simp only [go_sem,hD,hJ,hP,hY,k1]
 | (with_reducible first | refine cy fun hc=> ?_ | refine cz fun hc=> ?_ | refine cA (fun hc=> ?_) fun hc=> ?_) <;> (try simp only [hc,bs, ↓reduceIte]at h) <;> try simp only [hc]
 | (with_reducible refine aJ hQ ?_;(try cases h);simp only [ay,az,c9,da,go_sem,hD,hJ,hP,hY,k1];repeat' (first | exact Ok.out | with_reducible refine aM ?_ ?_ | (simp;done))))
 | cons a rest=>
  obtain⟨hJ,g2,hD,g4⟩:=drop_cons h1
  have bq:k<4611686018427387904:=by omega
  have OS:=hb a (List.mem_of_getElem? hJ)
  simp only [jl]at h
  repeat' (first
 | simp only [go_sem,hD,hJ,hP,hY,k1]
 | (with_reducible refine CV.use (he) (OS) ?_)
 | (with_reducible first | refine cy fun hc=> ?_ | refine cz fun hc=> ?_ | refine cA (fun hc=> ?_) fun hc=> ?_) <;> (try simp only [hc,bs, ↓reduceIte]at h) <;> try simp only [hc]
 | (with_reducible refine aJ hQ ?_;(try cases h);simp only [ay,az,c9,da,go_sem,hD,hJ,hP,hY,k1];repeat' (first | exact Ok.out | with_reducible refine aM ?_ ?_ | (simp;done))))
  refine dn 1 0 ?_ ?_ (IH (rest,k+1) ⟨g2,h⟩ (Nat.lt_succ_self _))
  ·(simp only [go_sem,hD,hJ,hP,hY,k1,aF bq];try exact bo)
  ·(simp only [go_sem,hD,hJ,hP,hY,k1,aF bq];try exact bo)
theorem tY {P:Program} {g f:Nat} {row:List D} {rows:List (List D)} {z:Nat} {d:D} (h:aI P g [.slice .shared z rows, .eW f [.ptr 0 0]] ⟨[row],[]⟩ d ⟨[row],[]⟩) (oT:D.bE 0 0 row=true) (hw:D.gM 0 0 rows=true) (hd:D.ok 0 0 d=true) {s:St} {o:Nat} (ho:s.au[o]? = some row) :
 aI P g [.slice .shared z rows, .eW f [.ptr o 0]] s d s:=by
 refine dA.frame [o] [] h (by simp) List.nodup_nil (by simpa using (List.getElem?_eq_some_iff.1 ho).1) (by simp) rfl (fun i o' ds e1 e2=> ?_) rfl (by simp) (by simp [D.e7,D.cU,Tag.cU,jS _ _ _ hw])
  (by simp [D.bE,D.ok,Tag.ok,lV (Nat.zero_le 1) (Nat.le_refl 0) _ hw]) ?_
 ·cases i with
  | zero=>simp at e1 e2;subst e1;subst e2;exact⟨by rw [e8 _ _ _ oT];exact ho,gF (Nat.zero_le 1) (Nat.le_refl 0) _ oT⟩
  | succ i=>simp at e1
 ·rintro _ _ ⟨rfl,rfl⟩
  refine⟨nF _ _ _ hd, ?_⟩
  have:s.au.set o row=s.au:=by
   apply List.ext_getElem?
   intro i
   rw [List.getElem?_set]
   split
   ·rename_i e;subst e;rw [ho];split
    ·rfl
    ·rename_i hh;exact absurd (List.getElem?_eq_some_iff.1 ho).1 hh
   ·rfl
  simp [St.back,iz,e8 _ _ _ oT,this]
theorem rE {l:List aD} (hl:l.length<4611686018427387904) {f:Nat} {row:List D} {b:aD→Bool} (oT:D.bE 0 0 row=true) (he:enters Try.prog f=true)
 (hb : ∀ x∈l,aI Try.prog f ([.str x]++ [.ptr 0 0]) ⟨[row],[]⟩ (.bool (b x)) ⟨[row],[]⟩) :
 aI Try.prog eh [.slice .shared 1 (l.map encStr), .eW f [.ptr 0 0]] ⟨[row],[]⟩ (.bool (l.any b)) ⟨[row],[]⟩:=by
 have k1 : ∀ n m,D.fk n m row=row:=fun n m=>fw n m _ oT
 have hi:=tX hl oT he hb
 have e:decide (jl b 0 l≥0)=l.any b:=by
  have:=xU b l 0 (Int.le_refl 0)
  cases hh:l.any b <;> simp_all
 refine aI.go mQ rfl fun B Q hB hQ=> ?_
 have⟨hD,hJ,hP,hY⟩:=bZ
 repeat' (first
 | simp only [go_sem,hD,hJ,hP,hY,k1,e]
 | (with_reducible refine CU (hi) ?_)
 | (with_reducible first | refine cy fun hc=> ?_ | refine cz fun hc=> ?_ | refine cA (fun hc=> ?_) fun hc=> ?_) <;> (try simp only [hc,bs, ↓reduceIte]at h) <;> try simp only [hc]
 | (with_reducible refine aJ hQ ?_;simp only [ay,az,c9,da,go_sem,hD,hJ,hP,hY,k1,e];repeat' (first | exact Ok.out | with_reducible refine aM ?_ ?_ | (simp;done))))
theorem rF {l:List aD} (hl:l.length<4611686018427387904) {f:Nat} {row:List D} {b:aD→Bool} (oT:D.bE 0 0 row=true) (he:enters Try.prog f=true)
 (hb : ∀ x∈l,aI Try.prog f ([.str x]++ [.ptr 0 0]) ⟨[row],[]⟩ (.bool (b x)) ⟨[row],[]⟩) {s:St} {o:Nat} (ho:s.au[o]? = some row) :
 aI Try.prog eh [.slice .shared 1 (l.map encStr), .eW f [.ptr o 0]] s (.bool (l.any b)) s:=
 tY (rE hl oT he hb) oT (e9 l) rfl ho
theorem pO {l:List Pc} (hl:l.length<4611686018427387904) {f:Nat} {row:List D} {b:Pc→Bool} (oT:D.bE 0 0 row=true) (he:enters Try.prog f=true)
 (hb : ∀ x∈l,aI Try.prog f ([.agg (bL x)]++ [.ptr 0 0]) ⟨[row],[]⟩ (.bool (b x)) ⟨[row],[]⟩) :
 aI Try.prog ep [.slice .shared 5 (l.map bL), .eW f [.ptr 0 0]] ⟨[row],[]⟩ (.int .i64 (jl b 0 l)) ⟨[row],[]⟩:=by
 generalize h:jl b 0 l=p
 have k1 : ∀ n m,D.fk n m row=row:=fun n m=>fw n m _ oT
 refine aI.go ng rfl fun B Q hB hQ=> ?_
 have⟨hD,hJ,hP,hY⟩:=bZ
 repeat' (first
 | simp only [go_sem,hD,hJ,hP,hY,k1]
 | (with_reducible first | refine cy fun hc=> ?_ | refine cz fun hc=> ?_ | refine cA (fun hc=> ?_) fun hc=> ?_) <;> (try simp only [hc,bs, ↓reduceIte]at h) <;> try simp only [hc]
 | (with_reducible refine aJ hQ ?_;(try cases h);simp only [ay,az,c9,da,go_sem,hD,hJ,hP,hY,k1];repeat' (first | exact Ok.out | with_reducible refine aM ?_ ?_ | (simp;done))))
 refine dn 1 0 ?_ ?_ (bp.ind (ι:=List Pc×Nat) (fun i=>l.drop i.2=i.1∧jl b (i.2:Int) i.1=p) (fun i=>i.1.length)
  (fun i=> [(0, .slice .shared 5 (l.map bL)),(1, .eW f [.ptr 0 0]),(7, .int .i64 (l.length:Int)),(8, .int .i64 (i.2:Int))]) (fun i=>⟨[row],[]⟩) ?_ (l,0) ⟨rfl,h⟩)
 ·(simp only [go_sem,hD,hJ,hP,hY,k1];try exact bo)
 ·(simp only [go_sem,hD,hJ,hP,hY,k1];try exact bo)
 rintro⟨rest,k⟩ ⟨h1,h⟩ IH
 dsimp only at h1 h
 cases rest with
 | nil=>
  have hD:=drop_nil h1
  simp only [jl]at h
  repeat' (first
 | simp only [go_sem,hD,hJ,hP,hY,k1]
 | (with_reducible first | refine cy fun hc=> ?_ | refine cz fun hc=> ?_ | refine cA (fun hc=> ?_) fun hc=> ?_) <;> (try simp only [hc,bs, ↓reduceIte]at h) <;> try simp only [hc]
 | (with_reducible refine aJ hQ ?_;(try cases h);simp only [ay,az,c9,da,go_sem,hD,hJ,hP,hY,k1];repeat' (first | exact Ok.out | with_reducible refine aM ?_ ?_ | (simp;done))))
 | cons a rest=>
  obtain⟨hJ,g2,hD,g4⟩:=drop_cons h1
  have bq:k<4611686018427387904:=by omega
  have OS:=hb a (List.mem_of_getElem? hJ)
  simp only [jl]at h
  repeat' (first
 | simp only [go_sem,hD,hJ,hP,hY,k1]
 | (with_reducible refine CV.use (he) (OS) ?_)
 | (with_reducible first | refine cy fun hc=> ?_ | refine cz fun hc=> ?_ | refine cA (fun hc=> ?_) fun hc=> ?_) <;> (try simp only [hc,bs, ↓reduceIte]at h) <;> try simp only [hc]
 | (with_reducible refine aJ hQ ?_;(try cases h);simp only [ay,az,c9,da,go_sem,hD,hJ,hP,hY,k1];repeat' (first | exact Ok.out | with_reducible refine aM ?_ ?_ | (simp;done))))
  refine dn 1 0 ?_ ?_ (IH (rest,k+1) ⟨g2,h⟩ (Nat.lt_succ_self _))
  ·(simp only [go_sem,hD,hJ,hP,hY,k1,aF bq];try exact bo)
  ·(simp only [go_sem,hD,hJ,hP,hY,k1,aF bq];try exact bo)
theorem s4 {l:List Pc} (hl:l.length<4611686018427387904) {f:Nat} {row:List D} {b:Pc→Bool} (oT:D.bE 0 0 row=true) (he:enters Try.prog f=true)
 (hb : ∀ x∈l,aI Try.prog f ([.agg (bL x)]++ [.ptr 0 0]) ⟨[row],[]⟩ (.bool (b x)) ⟨[row],[]⟩) :
 aI Try.prog eO [.slice .shared 5 (l.map bL), .eW f [.ptr 0 0]] ⟨[row],[]⟩ (.bool (l.any b)) ⟨[row],[]⟩:=by
 have k1 : ∀ n m,D.fk n m row=row:=fun n m=>fw n m _ oT
 have hi:=pO hl oT he hb
 have e:decide (jl b 0 l≥0)=l.any b:=by
  have:=xU b l 0 (Int.le_refl 0)
  cases hh:l.any b <;> simp_all
 refine aI.go l5 rfl fun B Q hB hQ=> ?_
 have⟨hD,hJ,hP,hY⟩:=bZ
 repeat' (first
 | simp only [go_sem,hD,hJ,hP,hY,k1,e]
 | (with_reducible refine CU (hi) ?_)
 | (with_reducible first | refine cy fun hc=> ?_ | refine cz fun hc=> ?_ | refine cA (fun hc=> ?_) fun hc=> ?_) <;> (try simp only [hc,bs, ↓reduceIte]at h) <;> try simp only [hc]
 | (with_reducible refine aJ hQ ?_;simp only [ay,az,c9,da,go_sem,hD,hJ,hP,hY,k1,e];repeat' (first | exact Ok.out | with_reducible refine aM ?_ ?_ | (simp;done))))
end Go.Abs

/-! MirFlat2 -/

namespace Go.Abs
mutual
def Sm.pre:Sm→List Sm
 | ⟨id,kind,labels,name,pc,x,has,args,aZ,aQ⟩=>⟨id,kind,labels,name,pc,x,has,args,aZ,aQ⟩::(Sm.fb aZ++Sm.fb aQ)
def Sm.fb:List Sm→List Sm
 | []=> []
 | s::l=>s.pre++Sm.fb l
end
def Pg.pre (p:Pg):List Sm:=(p.procs.map fun f=>Sm.fb f.body).flatten
mutual
theorem Mn (proc up next loop:Int) (out:List Im) : ∀ s:Sm,∃ e:List Im,Im.one proc up next loop out s=out++e∧e.map Im.s=s.pre
 | ⟨id,kind,labels,name,pc,x,has,args,aZ,aQ⟩=>by
  simp only [Im.one,Sm.pre]
  obtain⟨e1,h1,k1⟩:=sj proc ((out.length:Int)+1) (if kind==6 then(out.length:Int)+1 else next) (if kind==6 then(out.length:Int)+1 else loop) (out++ [⟨⟨id,kind,labels,name,pc,x,has,args,aZ,aQ⟩,proc,up,next,loop⟩]) aZ
  obtain⟨e2,h2,k2⟩:=sj proc ((out.length:Int)+1) (if kind==6 then(out.length:Int)+1 else next) (if kind==6 then(out.length:Int)+1 else loop) (Im.rows proc ((out.length:Int)+1) (if kind==6 then(out.length:Int)+1 else next) (if kind==6 then(out.length:Int)+1 else loop) (out++ [⟨⟨id,kind,labels,name,pc,x,has,args,aZ,aQ⟩,proc,up,next,loop⟩]) aZ) aQ
  refine⟨⟨⟨id,kind,labels,name,pc,x,has,args,aZ,aQ⟩,proc,up,next,loop⟩::(e1++e2), ?_, ?_⟩
  ·rw [h2,h1];simp
  ·simp [k1,k2]
theorem sj (proc up next loop:Int) (out:List Im) : ∀ l:List Sm,∃ e:List Im,Im.rows proc up next loop out l=out++e∧e.map Im.s=Sm.fb l
 | []=>⟨[],by simp [Im.rows],rfl⟩
 | s::l=>by
  simp only [Im.rows,Sm.fb]
  obtain⟨e1,h1,k1⟩:=Mn proc up (if l.length=0 then next else(out.length:Int)+1+(s.gp:Int)) loop out s
  obtain⟨e2,h2,k2⟩:=sj proc up next loop (Im.one proc up (if l.length=0 then next else(out.length:Int)+1+(s.gp:Int)) loop out s) l
  refine⟨e1++e2, ?_,by simp [k1,k2]⟩
  rw [h2,h1];simp
end
theorem G2 : ∀ (l:List Pc) (n:Nat) (h:Sh),h.lo.length=n→h.hi.length=n→
 ∃ e lo hi,Sh.go n h l = ⟨h.L++e,h.lo++lo,h.hi++hi⟩∧e.map Im.s=(l.map fun f=>Sm.fb f.body).flatten∧lo.length=l.length∧hi.length=l.length∧
  ∀ (i:Nat) (f:Pc),l[i]? = some f→∃ a b e' Ff:List Im,lo[i]? = some (((h.L++a).length:Int)+1)∧hi[i]? = some (((h.L++a++b).length:Int)+1)∧b.map Im.s=Sm.fb f.body∧e=a++b++e'
 | [],n,h,hl,hh=>⟨[],[],[],by simp [Sh.go],rfl,rfl,rfl,fun i f h=>by simp at h⟩
 | f::l,n,h,hl,hh=>by
  simp only [Sh.go]
  obtain⟨e1,h1,k1⟩:=sj (n:Int) 0 (-1) 0 h.L f.body
  obtain⟨e2,lo,hi,h2,k2,h3,h4,h5⟩:=G2 l (n+1) ⟨Im.rows (n:Int) 0 (-1) 0 h.L f.body,h.lo++ [(h.L.length:Int)+1],h.hi++ [((Im.rows (n:Int) 0 (-1) 0 h.L f.body).length:Int)+1]⟩ (by simp [hl]) (by simp [hh])
  refine⟨e1++e2,((h.L.length:Int)+1)::lo,(((Im.rows (n:Int) 0 (-1) 0 h.L f.body).length:Int)+1)::hi, ?_,by simp [k1,k2],by simp [h3],by simp [h4],fun i g fW=> ?_⟩
  ·rw [h2,h1];simp
  ·cases i with
   | zero=>
    simp only [List.getElem?_cons_zero,Option.some.injEq]at fW
    subst fW
    exact⟨[],e1,e2,[],by simp,by rw [h1];simp,k1,by simp⟩
   | succ i=>
    simp only [List.getElem?_cons_succ]at fW
    obtain⟨a,b,e',Ff,g1,g2,g3,g4⟩:=h5 i g fW
    refine⟨e1++a,b,e',Ff, ?_, ?_,g3,by rw [g4];simp⟩
    ·rw [List.getElem?_cons_succ,g1,h1];simp
    ·rw [List.getElem?_cons_succ,g2,h1];simp
theorem mb (p:Pg):p.dQ.L.map Im.s=p.pre∧∀ (i:Nat) (f:Pc),p.procs[i]? = some f→∃ a b e:List Im,p.dQ.lo[i]? = some ((a.length:Int)+1)∧p.dQ.hi[i]? = some (((a++b).length:Int)+1)∧b.map Im.s=Sm.fb f.body∧p.dQ.L=a++b++e:=by
 obtain⟨e,lo,hi,h1,h2,h3,h4,h5⟩:=G2 p.procs 0 ⟨[],[],[]⟩ rfl rfl
 unfold Pg.dQ
 rw [h1]
 refine⟨by simpa [Pg.pre]using h2,fun i f hf=> ?_⟩
 obtain⟨a,b,e',_,g1,g2,g3,g4⟩:=h5 i f hf
 exact⟨a,b,e',by simpa using g1,by simpa using g2,g3,by simpa using g4⟩
end Go.Abs

/-! Sl2 -/

namespace Go.Abs
set_option maxRecDepth 8000
open Go.Proofs
def Pg.at (p:Pg) (name:aD):Int:=jl (fun f:Pc=>f.name==name) 0 p.procs
theorem Mp (name:aD) (f:Pc):aI Try.prog iE ([.agg (bL f)]++ [.ptr 0 0]) ⟨[[.str name]],[]⟩ (.bool (f.name==name)) ⟨[[.str name]],[]⟩:=by
 show aI Try.prog iE [.agg (bL f), .ptr 0 0] _ _ _
 refine aI.go rz rfl fun B Q hB hQ=> ?_
 have⟨hD,hJ,hP,hY⟩:=bZ
 repeat' (first
 | simp only [go_sem,hD,hJ,hP,hY]
 | (with_reducible refine aJ hQ ?_;simp only [ay,az,Option.some.injEq,exists_eq_left',go_sem,hD,hJ,hP,hY];repeat' (first | exact Ok.out | with_reducible refine aM ?_ ?_ | (simp;done))))
theorem G3 {p:Pg} (hs:p.procs.length<4611686018427387904) (name:aD) (s:St):aI Try.prog jw [.cV (iF p) 0, .str name] s (.int .i64 (p.at name)) s:=by
 refine aI.pure ?_ (by simp [D.bE,D.ok,xT]) rfl s
 have hi:=fun {s:St} {o:Nat} (ho:s.au[o]? = some [.str name])=>tY (pO (l:=p.procs) (f:=iE) (row:= [.str name]) (b:=fun f:Pc=>f.name==name) hs rfl (by with_unfolding_all rfl) (fun x _=>Mp name x)) rfl (zM _) rfl ho
 have fW:=fun {s:St} {o:Nat} (ho:s.au[o]? = some [.str name])=>(show aI Try.prog ep [.slice .shared 5 (p.procs.map bL), .eW 66 [.ptr o 0]] s (.int .i64 (p.at name)) s from hi ho)
 unfold S0
 rw [sh]
 refine aI.go sZ rfl fun B Q hB hQ=> ?_
 have⟨hD,hJ,hP,hY⟩:=bZ
 repeat' (first
 | simp only [go_sem,hD,hJ,hP,hY]
 | (with_reducible refine CU (fW (by with_unfolding_all rfl)) ?_)
 | (with_reducible refine aJ hQ ?_;simp only [ay,az,Option.some.injEq,exists_eq_left',go_sem,hD,hJ,hP,hY];repeat' (first | exact Ok.out | with_reducible refine aM ?_ ?_ | (simp;done))))
theorem G4 : ∀ (l:List Pc) (n:Nat) (h:Sh),(Sh.go n h l).L.length≤h.L.length+Pc.aS l
 | [],n,h=>by simp [Sh.go]
 | f::l,n,h=>by
  simp only [Sh.go]
  refine Nat.le_trans (G4 l _ _) ?_
  have:=eI (n:Int) 0 (-1) 0 h.L f.body
  have:=kZ f.body
  simp only [Pc.aS,Pc.size];omega
theorem mc (p:Pg):p.dQ.L.length≤Pc.aS p.procs:=by have:=G4 p.procs 0 ⟨[],[],[]⟩;simpa [Pg.dQ]using this
theorem JD {p:Pg} {i:Nat} {f:Pc} (hf:p.procs[i]? = some f) (hs:Pc.aS p.procs<1000000000) : ∃ it:List Im,it.map Im.s=Sm.fb f.body∧∀ s,aI Try.prog iY [.cV (iF p) 0, .int .i64 (i:Int)] s (.slice .shared 17 (it.map ef)) s:=by
 obtain⟨a,b,e,h1,h2,h3,h4⟩:=(mb p).2 i f hf
 refine⟨b,h3,fun s=> ?_⟩
 refine aI.pure ?_ (by simp [D.bE,D.ok,xT]) (by simp [D.ok,Tag.ok,zN]) s
 have hL:p.dQ.L.length<1000000000:=Nat.lt_of_le_of_lt (mc p) hs
 have l1:(i:Int)<(p.dQ.lo.length:Int):=by have:=(List.getElem?_eq_some_iff.1 h1).1;omega
 have l2:(i:Int)<(p.dQ.hi.length:Int):=by have:=(List.getElem?_eq_some_iff.1 h2).1;omega
 have Lj:a.length+b.length≤p.dQ.L.length:=by rw [h4];simp
 have w1:IntKind.wrap .i64 ((a.length:Int)+1 - 1)=(a.length:Int):=by rw [show(a.length:Int)+1 - 1=(a.length:Int) by omega];exact dj (by omega) (by omega)
 have w2:IntKind.wrap .i64 (((a.length+b.length:Nat):Int)+1 - 1)=((a.length+b.length:Nat):Int):=by rw [show((a.length+b.length:Nat):Int)+1 - 1=((a.length+b.length:Nat):Int) by omega];exact dj (by omega) (by omega)
 have c1:((a.length:Int)≤((a.length+b.length:Nat):Int))=True:=by simp only [eq_iff_iff,iff_true];omega
 have c2:(((a.length+b.length:Nat):Int)≤(p.dQ.L.length:Int))=True:=by simp only [eq_iff_iff,iff_true];omega
 have hb:List.drop a.length (List.take (a.length+b.length) (List.map ef p.dQ.L))=List.map ef b:=by rw [h4];simp [List.map_append,List.take_append,List.drop_append]
 unfold S0
 rw [sh]
 refine aI.go uS rfl fun B Q hB hQ=> ?_
 have⟨hD,hJ,hP,hY⟩:=bZ
 repeat' (first
 | simp only [go_sem,hD,hJ,hP,hY,h1,h2,w1,w2,c1,c2,or_true,true_and,and_self,ite_self,Int.toNat_natCast,hb]
 | (with_reducible refine aJ hQ ?_;simp only [ay,az,Option.some.injEq,exists_eq_left',go_sem,hD,hJ,hP,hY];repeat' (first | exact Ok.out | with_reducible refine aM ?_ ?_ | (simp;done))))
end Go.Abs

/-! TMay1 -/

namespace Go.Abs
set_option maxRecDepth 8000
open Go.Proofs
theorem yA {r:aD} : uI r=true↔k8 r=r.length:=by
 induction r with
 | nil=>simp [uI,k8]
 | cons c r ih=>
  simp only [uI,k8]
  cases h1:tW c <;> cases h2:wN c <;> simp [ih]
theorem tZ (t:aD) (hl:t.length<4611686018427387904) (s:St):aI Try.prog jZ [.str t] s (.bool (isName t)) s:=by
 refine aI.pure ?_ rfl rfl s
 have hr:=fun s=>QT (pos:=0) hl s
 simp only [List.drop_zero,Nat.zero_add]at hr
 unfold S0
 cases t with
 | nil=>
  have z:decide (((0:Nat):Int)<1)=true:=rfl
  have z':decide ((0:Int)<1)=true:=rfl
  have e:isName [] = false:=rfl
  rw [e]
  refine aI.go jI rfl fun B Q hB hQ=> ?_
  have⟨hD,hJ,hP,hY⟩:=bZ
  repeat' (first
 | simp only [go_sem,hD,hJ,hP,hY,z,z']
 | (with_reducible refine aJ hQ ?_;simp only [ay,az,Option.some.injEq,exists_eq_left',go_sem,hD,hJ,hP,hY];repeat' (first | exact Ok.out | with_reducible refine aM ?_ ?_ | (simp;done))))
 | cons c r=>
  have l1:decide (((r.length+1:Nat):Int)<1)=false:=by simp;omega
  generalize h:isName (c::r)=p
  simp only [isName]at h
  cases hL:tW c
  ·simp only [hL,Bool.not_false,Bool.or_true, ↓reduceIte]at h
   subst h
   by_cases c8:decide (((r.length+1:Nat):Int) > 8)=true
   ·refine aI.go jI rfl fun B Q hB hQ=> ?_
    have⟨hD,hJ,hP,hY⟩:=bZ
    repeat' (first
 | simp only [go_sem,hD,hJ,hP,hY,l1,c8]
 | (with_reducible refine aJ hQ ?_;simp only [ay,az,Option.some.injEq,exists_eq_left',go_sem,hD,hJ,hP,hY];repeat' (first | exact Ok.out | with_reducible refine aM ?_ ?_ | (simp;done))))
   ·have c8:decide (((r.length+1:Nat):Int) > 8)=false:=by simpa using c8
    refine aI.go jI rfl fun B Q hB hQ=> ?_
    have⟨hD,hJ,hP,hY⟩:=bZ
    repeat' (first
 | simp only [go_sem,hD,hJ,hP,hY,l1,c8,hL]
 | (with_reducible refine CU (nO _ _) ?_)
 | (with_reducible refine aJ hQ ?_;simp only [ay,az,Option.some.injEq,exists_eq_left',go_sem,hD,hJ,hP,hY];repeat' (first | exact Ok.out | with_reducible refine aM ?_ ?_ | (simp;done))))
  ·simp only [hL,Bool.not_true,Bool.or_false]at h
   by_cases c8:decide (((r.length+1:Nat):Int) > 8)=true
   ·simp only [c8, ↓reduceIte]at h
    subst h
    refine aI.go jI rfl fun B Q hB hQ=> ?_
    have⟨hD,hJ,hP,hY⟩:=bZ
    repeat' (first
 | simp only [go_sem,hD,hJ,hP,hY,l1,c8]
 | (with_reducible refine aJ hQ ?_;simp only [ay,az,Option.some.injEq,exists_eq_left',go_sem,hD,hJ,hP,hY];repeat' (first | exact Ok.out | with_reducible refine aM ?_ ?_ | (simp;done))))
   ·have c8:decide (((r.length+1:Nat):Int) > 8)=false:=by simpa using c8
    simp only [c8,Bool.false_eq_true, ↓reduceIte]at h
    have cW:k8 (c::r)=k8 r+1:=by simp [k8,hL]
    cases hn:uI r
    ·simp only [hn,Bool.false_eq_true, ↓reduceIte]at h
     have:k8 r≠r.length:=fun e=>by rw [yA.2 e]at hn;cases hn
     have e:(((k8 (c::r):Nat):Int)==((r.length+1:Nat):Int))=false:=by rw [cW];simp;omega
     subst h
     refine aI.go jI rfl fun B Q hB hQ=> ?_
     have⟨hD,hJ,hP,hY⟩:=bZ
     repeat' (first
 | simp only [go_sem,hD,hJ,hP,hY,l1,c8,hL,e]
 | (with_reducible refine CU (nO _ _) ?_)
 | (with_reducible refine CU (hr _) ?_)
 | (with_reducible refine aJ hQ ?_;simp only [ay,az,Option.some.injEq,exists_eq_left',go_sem,hD,hJ,hP,hY];repeat' (first | exact Ok.out | with_reducible refine aM ?_ ?_ | (simp;done))))
    ·simp only [hn, ↓reduceIte]at h
     have:=yA.1 hn
     have e:(((k8 (c::r):Nat):Int)==((r.length+1:Nat):Int))=true:=by rw [cW];simp;omega
     subst h
     refine aI.go jI rfl fun B Q hB hQ=> ?_
     have⟨hD,hJ,hP,hY⟩:=bZ
     repeat' (first
 | simp only [go_sem,hD,hJ,hP,hY,l1,c8,hL,e]
 | (with_reducible refine CU (nO _ _) ?_)
 | (with_reducible refine CU (hr _) ?_)
 | (with_reducible refine CU (OM _ _) ?_)
 | (with_reducible refine aJ hQ ?_;simp only [ay,az,Option.some.injEq,exists_eq_left',go_sem,hD,hJ,hP,hY];repeat' (first | exact Ok.out | with_reducible refine aM ?_ ?_ | (simp;done))))
theorem CI (op:Int) (s:St):aI Try.prog qX [.int .i64 op] s (.int .i64 (lL op)) s:=by
 refine aI.pure ?_ rfl rfl s
 unfold S0
 generalize h:lL op=p
 unfold lL at h
 refine aI.go zz rfl fun B Q hB hQ=> ?_
 have⟨hD,hJ,hP,hY⟩:=bZ
 repeat' (first
 | simp only [go_sem,hD,hJ,hP,hY]
 | (with_reducible first | refine cy fun hc=> ?_ | refine cz fun hc=> ?_ | refine cA (fun hc=> ?_) fun hc=> ?_) <;> (try simp only [hc,bs, ↓reduceIte]at h) <;> try simp only [hc]
 | (with_reducible refine aJ hQ ?_;(try cases h);simp only [ay,az,c9,da,go_sem,hD,hJ,hP,hY];repeat' (first | exact Ok.out | with_reducible refine aM ?_ ?_ | (simp;done))))
theorem sk {l:List aD} (hl:l.length<4611686018427387904) (hs : ∀ t∈l,t.length<4611686018427387904) (s:St):aI Try.prog jG [.slice .shared 1 (l.map encStr)] s (.bool (dk l)) s:=by
 refine aI.pure ?_ (by simp [D.bE,D.ok,e9,Tag.ok]) rfl s
 unfold S0
 generalize h:dk l=p
 refine aI.go xM rfl fun B Q hB hQ=> ?_
 have⟨hD,hJ,hP,hY⟩:=bZ
 repeat' (first
 | simp only [go_sem,hD,hJ,hP,hY]
 | (with_reducible first | refine cy fun hc=> ?_ | refine cz fun hc=> ?_ | refine cA (fun hc=> ?_) fun hc=> ?_) <;> (try simp only [hc,bs, ↓reduceIte]at h) <;> try simp only [hc]
 | (with_reducible refine aJ hQ ?_;(try cases h);simp only [ay,az,c9,da,go_sem,hD,hJ,hP,hY];repeat' (first | exact Ok.out | with_reducible refine aM ?_ ?_ | (simp;done))))
 refine dD 0 0 (bp.ind (ι:=List aD×Nat) (fun i=>l.drop i.2=i.1∧dk i.1=p) (fun i=>i.1.length)
  (fun i=> [(5, .slice .shared 1 (l.map encStr)),(6, .int .i64 (l.length:Int)),(7, .int .i64 (i.2:Int))]) (fun i=>⟨[],[]⟩) ?_ (l,0) ⟨rfl,h⟩)
 rintro⟨rest,k⟩ ⟨h1,h⟩ IH
 dsimp only at h1 h
 cases rest with
 | nil=>
  have hD:=drop_nil h1
  simp only [dk]at h
  repeat' (first
 | simp only [go_sem,hD,hJ,hP,hY]
 | (with_reducible first | refine cy fun hc=> ?_ | refine cz fun hc=> ?_ | refine cA (fun hc=> ?_) fun hc=> ?_) <;> (try simp only [hc,bs, ↓reduceIte]at h) <;> try simp only [hc]
 | (with_reducible refine aJ hQ ?_;(try cases h);simp only [ay,az,c9,da,go_sem,hD,hJ,hP,hY];repeat' (first | exact Ok.out | with_reducible refine aM ?_ ?_ | (simp;done))))
 | cons t rest=>
  obtain⟨hJ,g2,hD,g4⟩:=drop_cons h1
  have hP:k<4611686018427387904:=by omega
  have hn:=tZ t (hs t (List.mem_of_getElem? hJ))
  simp only [dk]at h
  repeat' (first
 | simp only [go_sem,hD,hJ,hP,hY]
 | (with_reducible refine CU (hn _) ?_)
 | (with_reducible first | refine cy fun hc=> ?_ | refine cz fun hc=> ?_ | refine cA (fun hc=> ?_) fun hc=> ?_) <;> (try simp only [hc,bs, ↓reduceIte]at h) <;> try simp only [hc]
 | (with_reducible refine aJ hQ ?_;(try cases h);simp only [ay,az,c9,da,go_sem,hD,hJ,hP,hY];repeat' (first | exact Ok.out | with_reducible refine aM ?_ ?_ | (simp;done))))
  refine dD 0 0 (IH (rest,k+1) ⟨g2,h⟩ (Nat.lt_succ_self _))
mutual
def Ex.dp (left:Int):Ex→Bool
 | ⟨op,n,name,kids⟩=>
  if decide (left<1) || (kids.length:Int) != lL op then false
  else if op==1 then decide (n≥0) && name == []
  else if op==2 then n==0 && isName name
  else if n != 0 || !(name == [])then false
  else Ex.wQ (left - 1) kids
def Ex.wQ (left:Int):List Ex→Bool
 | []=>true
 | x::l=>if !(Ex.dp left x)then false else Ex.wQ left l
end
theorem Mq : ∀ (m:Nat) (x:Ex),x.size≤m→x.size<4611686018427387904→x.texts→∀ left:Int,0≤left→left≤100→∀ s:St,aI Try.prog lK [.agg (bC x), .int .i64 left] s (.bool (x.dp left)) s:=by
 intro m
 induction m with
 | zero=>rintro⟨op,v,name,kids⟩ h;simp only [Ex.size]at h;omega
 | succ m ih=>
  rintro⟨op,v,name,kids⟩ h hx ht left h0 abL s
  refine aI.pure ?_ (by simp [D.bE,D.ok,ky]) rfl s
  have hlen:kids.length<4611686018427387904:=by simp only [Ex.size]at hx;have:=Ex.cZ kids;omega
  have hn:=tZ name ht.1
  generalize hp:Ex.dp left ⟨op,v,name,kids⟩=p
  simp only [Ex.dp]at hp
  unfold S0
  by_cases G5:left<1
  ·have d1:decide (left<1)=true:=by simpa using G5
   simp only [d1,Bool.true_or, ↓reduceIte]at hp
   subst hp
   refine aI.go sR rfl fun B Q hB hQ=> ?_
   have⟨hD,hJ,hP,hY⟩:=bZ
   repeat' (first
 | simp only [go_sem,hD,hJ,hP,hY,d1]
 | (with_reducible refine CU (CI _ _) ?_)
 | (with_reducible refine CU (hn _) ?_)
 | (with_reducible refine aJ hQ ?_;simp only [ay,az,c9,da,go_sem,hD,hJ,hP,hY];repeat' (first | exact Ok.out | with_reducible refine aM ?_ ?_ | (simp;done))))
  ·have d1:decide (left<1)=false:=by simpa using G5
   have w1:IntKind.wrap .i64 (left - 1)=left - 1:=dj (by omega) (by omega)
   have hk : ∀ y∈kids,∀ s,aI Try.prog lK [.agg (bC y), .int .i64 (left - 1)] s (.bool (y.dp (left - 1))) s:=fun y hy s=>
    ih y (by simp only [Ex.size]at h;have:=Ex.b7 hy;omega) (by simp only [Ex.size]at hx;have:=Ex.b7 hy;omega) (Ex.GU ht hy) (left - 1) (by omega) (by omega) s
   simp only [d1,Bool.false_or]at hp
   have h:=hp
   clear hp
   refine aI.go sR rfl fun B Q hB hQ=> ?_
   have⟨hD,hJ,hP,hY⟩:=bZ
   repeat' (first
 | simp only [go_sem,hD,hJ,hP,hY,d1]
 | (with_reducible refine CU (CI _ _) ?_)
 | (with_reducible refine CU (hn _) ?_)
 | (with_reducible first | refine cy fun hc=> ?_ | refine cz fun hc=> ?_ | refine cA (fun hc=> ?_) fun hc=> ?_) <;> (try simp only [hc,bs, ↓reduceIte]at h) <;> try simp only [hc]
 | (with_reducible refine aJ hQ ?_;(try cases h);simp only [ay,az,c9,da,go_sem,hD,hJ,hP,hY,d1];repeat' (first | exact Ok.out | with_reducible refine aM ?_ ?_ | (simp;done))))
   all_goals
    refine dD 1 0 (bp.ind (ι:=List Ex×Nat) (fun i=>kids.drop i.2=i.1∧Ex.wQ (left - 1) i.1=p) (fun i=>i.1.length)
     (fun i=> [(1, .int .i64 left),(49, .slice .shared 4 (kids.map bC)),(50, .int .i64 (kids.length:Int)),(51, .int .i64 (i.2:Int))]) (fun i=>⟨[bC ⟨op,v,name,kids⟩],[]⟩) ?_ (kids,0) ⟨rfl,h⟩)
    rintro⟨rest,k⟩ ⟨h1,h⟩ IH
    dsimp only at h1 h
    cases rest with
    | nil=>
     have hD:=drop_nil h1
     simp only [Ex.wQ]at h
     repeat' (first
 | simp only [go_sem,hD,hJ,hP,hY]
 | (with_reducible first | refine cy fun hc=> ?_ | refine cz fun hc=> ?_ | refine cA (fun hc=> ?_) fun hc=> ?_) <;> (try simp only [hc,bs, ↓reduceIte]at h) <;> try simp only [hc]
 | (with_reducible refine aJ hQ ?_;exact jE)
 | (cases h;done))
    | cons y rest=>
     obtain⟨hJ,g2,hD,g4⟩:=drop_cons h1
     have hy:=hk y (List.mem_of_getElem? hJ)
     have hP:k<4611686018427387904:=by omega
     simp only [Ex.wQ]at h
     repeat' (first
 | simp only [go_sem,hD,hJ,hP,hY,w1]
 | (with_reducible refine CU (hy _) ?_)
 | (with_reducible first | refine cy fun hc=> ?_ | refine cz fun hc=> ?_ | refine cA (fun hc=> ?_) fun hc=> ?_) <;> (try simp only [hc,bs, ↓reduceIte]at h) <;> try simp only [hc]
 | (with_reducible refine aJ hQ ?_;(try cases h);simp only [ay,az,c9,da,go_sem,hD,hJ,hP,hY,w1];repeat' (first | exact Ok.out | with_reducible refine aM ?_ ?_ | (simp;done))))
     refine dD 1 0 (IH (rest,k+1) ⟨g2,h⟩ (Nat.lt_succ_self _))
end Go.Abs

/-! TMay2 -/

namespace Go.Abs
set_option maxRecDepth 8000
open Go.Proofs
theorem wR {x:Ex} (hx:x.size<4611686018427387904) (ht:x.texts) (s:St):aI Try.prog lg [.agg (bC x)] s (.bool (x.dp 20)) s:=by
 refine aI.pure ?_ (by simp [D.bE,D.ok,ky]) rfl s
 have hd:=fun s=>Mq _ x (Nat.le_refl _) hx ht 20 (by omega) (by omega) s
 unfold S0
 refine aI.go vH rfl fun B Q hB hQ=> ?_
 have⟨hD,hJ,hP,hY⟩:=bZ
 repeat' (first
 | simp only [go_sem,hD,hJ,hP,hY]
 | (with_reducible refine CU (hd _) ?_)
 | (with_reducible first | refine cy fun hc=> ?_ | refine cz fun hc=> ?_ | refine cA (fun hc=> ?_) fun hc=> ?_) <;> (try simp only [hc,bs, ↓reduceIte]at h) <;> try simp only [hc]
 | (with_reducible refine aJ hQ ?_;exact jE)
 | (cases h;done))
theorem Mr (x:Ex) (s:St):aI Try.prog qW [.agg (bC x)] s (.bool x.none) s:=by
 refine aI.pure ?_ (by simp [D.bE,D.ok,ky]) rfl s
 unfold S0
 generalize h:Ex.none x=p
 unfold Ex.none at h
 refine aI.go zw rfl fun B Q hB hQ=> ?_
 have⟨hD,hJ,hP,hY⟩:=bZ
 repeat' (first
 | simp only [go_sem,hD,hJ,hP,hY]
 | (with_reducible first | refine cy fun hc=> ?_ | refine cz fun hc=> ?_ | refine cA (fun hc=> ?_) fun hc=> ?_) <;> (try simp only [hc,bs, ↓reduceIte]at h) <;> try simp only [hc]
 | (with_reducible refine aJ hQ ?_;exact jE)
 | (cases h;done))
def ow (t:aD) (is:Bool):Bool:=(is && isName t) || (!is && t == [])
theorem vI (t:aD) (is:Bool) (hl:t.length<4611686018427387904) (s:St):aI Try.prog k6 [.str t, .bool is] s (.bool (ow t is)) s:=by
 refine aI.pure ?_ rfl rfl s
 have hn:=tZ t hl
 unfold S0
 generalize h:ow t is=p
 unfold ow at h
 refine aI.go xQ rfl fun B Q hB hQ=> ?_
 have⟨hD,hJ,hP,hY⟩:=bZ
 repeat' (first
 | simp only [go_sem,hD,hJ,hP,hY]
 | (with_reducible refine CU (hn _) ?_)
 | (with_reducible first | refine cy fun hc=> ?_ | refine cz fun hc=> ?_ | refine cA (fun hc=> ?_) fun hc=> ?_) <;> (try simp only [hc,bs, ↓reduceIte]at h) <;> try simp only [hc]
 | (with_reducible refine aJ hQ ?_;exact jE)
 | (cases h;done))
def pP (x:Ex) (is:Bool):Bool:=(is && x.dp 20) || (!is && x.none)
theorem CJ {x:Ex} (is:Bool) (hx:x.size<4611686018427387904) (ht:x.texts) (s:St):aI Try.prog mK [.agg (bC x), .bool is] s (.bool (pP x is)) s:=by
 refine aI.pure ?_ (by simp [D.bE,D.ok,ky]) rfl s
 have hm:=wR hx ht
 unfold S0
 generalize h:pP x is=p
 unfold pP at h
 refine aI.go xR rfl fun B Q hB hQ=> ?_
 have⟨hD,hJ,hP,hY⟩:=bZ
 repeat' (first
 | simp only [go_sem,hD,hJ,hP,hY]
 | (with_reducible refine CU (hm _) ?_)
 | (with_reducible refine CU (Mr _ _) ?_)
 | (with_reducible first | refine cy fun hc=> ?_ | refine cz fun hc=> ?_ | refine cA (fun hc=> ?_) fun hc=> ?_) <;> (try simp only [hc,bs, ↓reduceIte]at h) <;> try simp only [hc]
 | (with_reducible refine aJ hQ ?_;exact jE)
 | (cases h;done))
def lh:List Ar→Bool
 | []=>true
 | a::l=>if !(ow a.name a.ref) || !(pP a.x !a.ref)then false else lh l
theorem JE {l:List Ar} (hl:l.length<4611686018427387904) (hs : ∀ a∈l,a.x.size<4611686018427387904∧a.x.texts∧a.name.length<4611686018427387904) (s:St) :
 aI Try.prog oL [.slice .shared 6 (l.map dh)] s (.bool (lh l)) s:=by
 refine aI.pure ?_ (by simp [D.bE,D.ok,zL,Tag.ok]) rfl s
 unfold S0
 generalize h:lh l=p
 refine aI.go wM rfl fun B Q hB hQ=> ?_
 have⟨hD,hJ,hP,hY⟩:=bZ
 repeat' (first
 | simp only [go_sem,hD,hJ,hP,hY]
 | (with_reducible first | refine cy fun hc=> ?_ | refine cz fun hc=> ?_ | refine cA (fun hc=> ?_) fun hc=> ?_) <;> (try simp only [hc,bs, ↓reduceIte]at h) <;> try simp only [hc]
 | (with_reducible refine aJ hQ ?_;exact jE)
 | (cases h;done))
 refine dD 0 0 (bp.ind (ι:=List Ar×Nat) (fun i=>l.drop i.2=i.1∧lh i.1=p) (fun i=>i.1.length)
  (fun i=> [(5, .slice .shared 6 (l.map dh)),(6, .int .i64 (l.length:Int)),(7, .int .i64 (i.2:Int))]) (fun i=>⟨[],[]⟩) ?_ (l,0) ⟨rfl,h⟩)
 rintro⟨rest,k⟩ ⟨h1,h⟩ IH
 dsimp only at h1 h
 cases rest with
 | nil=>
  have hD:=drop_nil h1
  simp only [lh]at h
  repeat' (first
 | simp only [go_sem,hD,hJ,hP,hY]
 | (with_reducible first | refine cy fun hc=> ?_ | refine cz fun hc=> ?_ | refine cA (fun hc=> ?_) fun hc=> ?_) <;> (try simp only [hc,bs, ↓reduceIte]at h) <;> try simp only [hc]
 | (with_reducible refine aJ hQ ?_;exact jE)
 | (cases h;done))
 | cons a rest=>
  obtain⟨hJ,g2,hD,g4⟩:=drop_cons h1
  have hP:k<4611686018427387904:=by omega
  obtain⟨a1,a2,a3⟩:=hs a (List.mem_of_getElem? hJ)
  have hn:=fun b s=>vI a.name b a3 s
  have hw:=fun b s=>CJ b a1 a2 s
  simp only [lh]at h
  repeat' (first
 | simp only [go_sem,hD,hJ,hP,hY]
 | (with_reducible refine CU (hn _ _) ?_)
 | (with_reducible refine CU (hw _ _) ?_)
 | (with_reducible first | refine cy fun hc=> ?_ | refine cz fun hc=> ?_ | refine cA (fun hc=> ?_) fun hc=> ?_) <;> (try simp only [hc,bs, ↓reduceIte]at h) <;> try simp only [hc]
 | (with_reducible refine aJ hQ ?_;exact jE)
 | (cases h;done))
  refine dD 0 0 (IH (rest,k+1) ⟨g2,h⟩ (Nat.lt_succ_self _))
def Sm.flags (s:Sm):Option (Bool×Bool×Bool×Bool×Bool×Bool):=
 if s.kind==1 then some (true,false,true,s.has,false,false)
 else if s.kind==2 || s.kind==10 then some (true,false,false,s.has,false,false)
 else if s.kind==3 then some (false,false,true,s.has,false,false)
 else if s.kind==4 then some (!(s.name == []),true,false,s.has,false,false)
 else if s.kind==5 then some (false,false,true,s.has,true,true)
 else if s.kind==6 then some (false,false,true,s.has,true,false)
 else if s.kind==9 then some (false,false,s.has,false,false,false)
 else if s.kind==7 || s.kind==8 then some (false,false,false,s.has,false,false)
 else none
def Sm.zP (s:Sm) (nm pr x:Bool):Bool:=if !(ow s.name nm) || !(ow s.proc pr) || !(pP s.x x)then false else lh s.args
def Sm.zQ (s:Sm) (f:Bool×Bool×Bool×Bool×Bool×Bool):Bool:=
 if f.2.2.2.1 || (!f.2.2.2.2.1 && decide ((s.aZ.length:Int) > 0)) || (!f.2.2.2.2.2 && decide ((s.aQ.length:Int) > 0)) || (!(s.kind==4) && decide ((s.args.length:Int) > 0))then false
 else s.zP f.1 f.2.1 f.2.2.1
def Sm.fields (s:Sm):Bool:=match s.flags with
 | none=>false
 | some f=>s.zQ f
section
variable {v:Sm} {B:fh} {Q:Exit→Tm→St→Prop} {p:Bool}
theorem JG {nm pr x:Bool} (hf:v.oN) (hB:B.s = ⟨[],[]⟩) (hQ:nE 0 0 [(2,none)] (.bool p) ⟨[],[]⟩=Q) (h:v.zP nm pr x=p) :
 Sem Try.prog B 93 OD Q [(1, .ptr 0 0),(3, .bool nm),(4, .bool pr),(5, .bool x)] ⟨[bd v],[]⟩:=by
 have h1:=fun b s=>vI v.name b hf.name s
 have h2:=fun b s=>vI v.proc b hf.proc s
 have h3:=fun b s=>CJ b hf.x hf.xt s
 have h4:=fun s=>JE hf.TY hf.arg s
 unfold Sm.zP at h
 have⟨hD,hJ,hP,hY⟩:=bZ
 refine gw ?_
 repeat' (first
 | simp only [go_sem,hD,hJ,hP,hY]
 | (with_reducible refine CU (h1 _ _) ?_)
 | (with_reducible refine CU (h2 _ _) ?_)
 | (with_reducible refine CU (h3 _ _) ?_)
 | (with_reducible refine CU (h4 _) ?_)
 | (with_reducible first | refine cy fun hc=> ?_ | refine cz fun hc=> ?_ | refine cA (fun hc=> ?_) fun hc=> ?_) <;> (try simp only [hc,bs, ↓reduceIte]at h) <;> try simp only [hc]
 | (with_reducible refine aJ hQ ?_;exact jE)
 | (cases h;done))
theorem JH {nm pr x has th ot ar:Bool} (hf:v.oN) (hB:B.s = ⟨[],[]⟩) (hQ:nE 0 0 [(2,none)] (.bool p) ⟨[],[]⟩=Q) (e:(v.kind==4)=ar) (h:v.zQ (nm,pr,x,has,th,ot)=p) :
 Sem Try.prog B 93 OE Q [(1, .ptr 0 0),(3, .bool nm),(4, .bool pr),(5, .bool x),(6, .bool has),(7, .bool th),(8, .bool ot),(9, .bool ar)] ⟨[bd v],[]⟩:=by
 simp only [Sm.zQ,e]at h
 have⟨hD,hJ,hP,hY⟩:=bZ
 refine Sem.oF ?_
 repeat' (first
 | simp only [go_sem,hD,hJ,hP,hY]
 | (with_reducible first | refine cy fun hc=> ?_ | refine cz fun hc=> ?_ | refine cA (fun hc=> ?_) fun hc=> ?_) <;> (try simp only [hc,bs, ↓reduceIte]at h) <;> try simp only [hc]
 | (with_reducible refine aJ hQ ?_;(try cases h);simp only [ay,az,c9,da,go_sem,hD,hJ,hP,hY];repeat' (first | exact Ok.out | with_reducible refine aM ?_ ?_ | (simp;done)))
 | (cases h;done))
 all_goals
  refine Sem.re _ _ 1 0 (by rw [hB];exact vf rfl) (by rw [hB];exact vf rfl) ?_ ?_ (JG hf hB hQ h)
  ·(simp only [go_sem,hD,hJ,hP,hY];repeat' (first | exact Ok.out | with_reducible refine aM ?_ ?_))
  ·(simp only [go_sem,hD,hJ,hP,hY];repeat' (first | exact Ok.out | with_reducible refine aM ?_ ?_))
theorem JI {ar:Bool} (hf:v.oN) (hB:B.s = ⟨[],[]⟩) (hQ:nE 0 0 [(2,none)] (.bool p) ⟨[],[]⟩=Q) (e:(v.kind==4)=ar) (h:v.fields=p) :
 Sem Try.prog B 93 Jx Q [(1, .ptr 0 0),(3, .bool false),(4, .bool false),(5, .bool false),(6, .bool v.has),(7, .bool false),(8, .bool false),(9, .bool ar)] ⟨[bd v],[]⟩:=by
 simp only [Sm.fields,Sm.flags]at h
 have⟨hD,hJ,hP,hY⟩:=bZ
 refine Sem.oF ?_
 repeat' (first
 | simp only [go_sem,hD,hJ,hP,hY]
 | (with_reducible first | refine cy fun hc=> ?_ | refine cz fun hc=> ?_ | refine cA (fun hc=> ?_) fun hc=> ?_) <;> (try simp only [hc,bs, ↓reduceIte]at h) <;> try simp only [hc]
 | (with_reducible refine aJ hQ ?_;(try cases h);simp only [ay,az,c9,da,go_sem,hD,hJ,hP,hY];repeat' (first | exact Ok.out | with_reducible refine aM ?_ ?_ | (simp;done)))
 | (cases h;done))
 all_goals
  refine Sem.re _ _ 1 0 (by rw [hB];exact vf rfl) (by rw [hB];exact vf rfl) ?_ ?_ (JH hf hB hQ e h)
  ·(simp only [go_sem,hD,hJ,hP,hY];repeat' (first | exact Ok.out | with_reducible refine aM ?_ ?_))
  ·(simp only [go_sem,hD,hJ,hP,hY];repeat' (first | exact Ok.out | with_reducible refine aM ?_ ?_))
end
theorem JJ {v:Sm} (hf:v.oN) (s:St):aI Try.prog oK [.agg (bd v)] s (.bool v.fields) s:=by
 refine aI.pure ?_ (by simp [D.bE,D.ok,lX]) rfl s
 unfold S0
 refine aI.goS wL rfl fun B Q hB hQ=> ?_
 have⟨hD,hJ,hP,hY⟩:=bZ
 refine Sem.seq (b:=OG) (gw ?_)
 repeat' (first
 | simp only [go_sem,hD,hJ,hP,hY]
 | (with_reducible first | refine cy fun hc=> ?_ | refine cz fun hc=> ?_ | refine cA (fun hc=> ?_) fun hc=> ?_) <;> (try simp only [hc,bs, ↓reduceIte]at h) <;> try simp only [hc]
 | (with_reducible refine aJ hQ ?_;exact jE)
 | (cases h;done))
 refine Sem.seq (b:=OF) (gw ?_)
 repeat' (first
 | simp only [go_sem,hD,hJ,hP,hY]
 | (with_reducible first | refine cy fun hc=> ?_ | refine cz fun hc=> ?_ | refine cA (fun hc=> ?_) fun hc=> ?_) <;> (try simp only [hc,bs, ↓reduceIte]at h) <;> try simp only [hc]
 | (with_reducible refine aJ hQ ?_;exact jE)
 | (cases h;done))
 refine Sem.seq (b:=Jx) (gw ?_)
 repeat' (first
 | simp only [go_sem,hD,hJ,hP,hY]
 | (with_reducible first | refine cy fun hc=> ?_ | refine cz fun hc=> ?_ | refine cA (fun hc=> ?_) fun hc=> ?_) <;> (try simp only [hc,bs, ↓reduceIte]at h) <;> try simp only [hc]
 | (with_reducible refine aJ hQ ?_;exact jE)
 | (cases h;done))
 refine Sem.re _ _ 1 0 (by rw [hB];exact vf rfl) (by rw [hB];exact vf rfl) ?_ ?_ (JI hf hB hQ rfl rfl)
 ·(simp only [go_sem,hD,hJ,hP,hY];repeat' (first | exact Ok.out | with_reducible refine aM ?_ ?_))
 ·(simp only [go_sem,hD,hJ,hP,hY];repeat' (first | exact Ok.out | with_reducible refine aM ?_ ?_))
end Go.Abs

/-! RefMay3 -/

namespace Go.Abs
set_option maxRecDepth 8000
open Go.Proofs
def dR (i:It):List D:= [.int .i64 i.s.id, .int .i64 i.s.kind, .slice .shared 1 (i.s.labels.map encStr), .str i.s.name, .str i.s.proc,
 .int .i64 i.s.x.op, .int .i64 i.s.x.n, .str i.s.x.name, .slice .shared 4 (i.s.x.kids.map bC), .bool i.s.has, .slice .shared 6 (i.s.args.map dh), .slice .shared 13 (i.s.aZ.map bd), .slice .shared 13 (i.s.aQ.map bd), .int .i64 i.deep, .int .i64 i.bD, .bool i.aQ]
theorem EZ (i:It):D.bE 0 0 (dR i)=true:=by simp [dR,D.bE,D.ok,Tag.ok,e9,K4,zL,o6]
theorem wS (l:List It):D.gM 0 0 (l.map dR)=true:=fi EZ l
theorem Q2 (n m:Nat) (l:List It):D.gL n m (l.map dR)=l.map dR:=jF EZ n m l
theorem Q3 (n m:Nat) (i:It):D.fk n m (dR i)=dR i:=fw n m _ (EZ i)
theorem Q4 (x:It):(dR x).length=16:=nd rfl
theorem Bc (x:It):List.take 13 (dR x)=bd x.s:=by simp only [dR,cB];rfl
theorem JK (x:It):(dR x)[0]? = some (.int .i64 x.s.id):=nd rfl
theorem G6 (x:It):(dR x)[13]? = some (.int .i64 x.deep):=nd rfl
theorem xW (s:Sm) (d n:Int) (e:Bool):dR ⟨s,d,n,e⟩ = [.int .i64 s.id, .int .i64 s.kind, .slice .shared 1 (s.labels.map encStr), .str s.name, .str s.proc,
 .int .i64 s.x.op, .int .i64 s.x.n, .str s.x.name, .slice .shared 4 (s.x.kids.map bC), .bool s.has, .slice .shared 6 (s.args.map dh), .slice .shared 13 (s.aZ.map bd), .slice .shared 13 (s.aQ.map bd), .int .i64 d, .int .i64 n, .bool e]:=nd rfl
attribute [go_sem] Q2 Q3 Q4 Bc JK G6
theorem Bd (deep bD:Int) (aQ:Bool) (out:List It) (s:Sm) :
 fC deep bD aQ out s=if decide (deep≤12)then cw (deep+1) s.id true (cw (deep+1) s.id false (out++ [⟨s,deep,bD,aQ⟩]) s.aZ) s.aQ else out++ [⟨s,deep,bD,aQ⟩]:=by
 cases s;simp only [fC]
mutual
theorem G7 (deep bD:Int) (aQ:Bool) (out:List It) (h:out.length≤200) : ∀ s:Sm,(fC deep bD aQ out s).length≤201
 | ⟨id,kind,labels,name,proc,x,has,args,aZ,e⟩=>by
  simp only [fC]
  have h1:(out++ [(⟨⟨id,kind,labels,name,proc,x,has,args,aZ,e⟩,deep,bD,aQ⟩:It)]).length≤201:=by simp;omega
  split
  ·exact hO _ _ _ _ (hO _ _ _ _ h1 aZ) e
  ·exact h1
theorem hO (deep bD:Int) (aQ:Bool) (out:List It) (h:out.length≤201) : ∀ l:List Sm,(cw deep bD aQ out l).length≤201
 | []=>by simpa only [cw]using h
 | s::l=>by
  simp only [cw]
  split
  ·rename_i hc
   simp only [decide_eq_true_eq]at hc
   exact hO deep bD aQ _ (G7 _ _ _ _ (by omega) s) l
  ·exact h
end
abbrev G8 (N:Nat):Prop:=∀ (l:List Sm) (deep bD:Int) (aQ:Bool) (out:List It),Sm.aS l<N→0≤deep→deep≤13→out.length≤201→∀ {s:St} {t:Nat},s.av[t]? = some (some out.length)→
 aI Try.prog ji [.slice .shared 13 (l.map bd), .int .i64 deep, .int .i64 bD, .bool aQ, .slice (.tok t) 16 (out.map dR)] s (.slice (.tok t) 16 ((cw deep bD aQ out l).map dR)) ⟨s.au,s.av.set t (some (cw deep bD aQ out l).length)⟩
theorem OU {N:Nat} (hN:N<4611686018427387904) (ih:G8 N) {l:List Sm} {deep bD:Int} {aQ:Bool} {out:List It} (hs:Sm.aS l<N+1) (yB:0≤deep) (hd:deep≤13) (ho:out.length≤201) :
 aI Try.prog ji [.slice .shared 13 (l.map bd), .int .i64 deep, .int .i64 bD, .bool aQ, .slice (.tok 0) 16 (out.map dR)] ⟨[],[some out.length]⟩ (.slice (.tok 0) 16 ((cw deep bD aQ out l).map dR)) ⟨[],[some (cw deep bD aQ out l).length]⟩:=by
 generalize hR:cw deep bD aQ out l=R
 refine aI.go sQ rfl fun B Q hB hQ=> ?_
 have⟨hD,hJ,hP,hY⟩:=bZ
 repeat' (first
 | simp only [go_sem,hD,hJ,hP,hY]
 | (with_reducible refine aJ hQ ?_;simp only [ay,az,Option.some.injEq,exists_eq_left',go_sem,hD,hJ,hP,hY];repeat' (first | exact Ok.out | with_reducible refine aM ?_ ?_ | (simp;done))))
 refine dD 0 1 (bp.ind (ι:=List Sm×Nat×List It×Nat) (fun i=>l.drop i.2.1=i.1∧cw deep bD aQ i.2.2.1 i.1=R∧i.2.2.1.length≤201∧i.2.2.2=i.2.2.1.length) (fun i=>i.1.length)
  (fun i=> [(0, .slice .shared 13 (l.map bd)),(1, .int .i64 deep),(2, .int .i64 bD),(3, .bool aQ),(4, .slice (.tok 0) 16 (i.2.2.1.map dR)),(11, .int .i64 (i.2.1:Int))]) (fun i=>⟨[],[some i.2.2.2]⟩) ?_ (l,0,out,out.length) ⟨rfl,hR,ho,rfl⟩)
 rintro⟨rest,k,out,n⟩ ⟨h1,h2,h3,h4⟩ IH
 dsimp only at h1 h2 h3 h4
 subst h4
 have hlen:l.length<4611686018427387904:=by have:=Sm.cZ l;omega
 cases rest with
 | nil=>
  have hD:=drop_nil h1
  simp only [cw]at h2
  subst h2
  repeat' (first
 | simp only [go_sem,hD,hJ,hP,hY]
 | (with_reducible refine aJ hQ ?_;simp only [ay,az,Option.some.injEq,exists_eq_left',go_sem,hD,hJ,hP,hY];repeat' (first | exact Ok.out | with_reducible refine aM ?_ ?_ | (simp;done))))
 | cons v rest=>
  obtain⟨hJ,g2,hD,g4⟩:=drop_cons h1
  have bq:k<4611686018427387904:=by omega
  have hv:=Sm.b7 (List.mem_of_getElem? hJ)
  have kU:Sm.aS v.aZ<N∧Sm.aS v.aQ<N:=by
   obtain⟨_,_,_,_,_,_,_,_,_,_⟩:=v
   simp only [Sm.size]at hv ⊢;omega
  simp only [cw]at h2
  by_cases hc:out.length≤200
  ·have c1:decide ((out.length:Int)≤200)=true:=by simp;omega
   simp only [c1, ↓reduceIte,Bd]at h2
   have hP:(out.length+1)*233≤bF:=by unfold bF;omega
   have kE:(out++ [(⟨v,deep,bD,aQ⟩:It)]).length≤201:=by simp;omega
   have hw:IntKind.wrap .i64 (deep+1)=deep+1:=dj (by omega) (by omega)
   by_cases T3:deep≤12
   ·have c2:decide (deep≤12)=true:=by simp;omega
    simp only [c2, ↓reduceIte]at h2
    have f1:=fun {s:St} {t:Nat} (ht:s.av[t]? = some (some (out++ [(⟨v,deep,bD,aQ⟩:It)]).length))=>ih v.aZ (deep+1) v.id false _ kU.1 (by omega) (by omega) kE ht
    have f2:=fun {s:St} {t:Nat} (ht:s.av[t]? = some (some (cw (deep+1) v.id false (out++ [(⟨v,deep,bD,aQ⟩:It)]) v.aZ).length))=>ih v.aQ (deep+1) v.id true _ kU.2 (by omega) (by omega) (hO _ _ _ _ kE _) ht
    simp only [List.map_append,List.map_cons,List.map_nil,xW,List.length_append,List.length_cons,List.length_nil]at f1
    repeat' (first
 | simp only [go_sem,hD,hJ,hP,hY,c1,c2,hw,cB]
 | (with_reducible refine CU (f1 (by with_unfolding_all rfl)) ?_)
 | (with_reducible refine CU (f2 (by with_unfolding_all rfl)) ?_)
 | (with_reducible refine aJ hQ ?_;simp only [ay,az,Option.some.injEq,exists_eq_left',go_sem,hD,hJ,hP,hY];repeat' (first | exact Ok.out | with_reducible refine aM ?_ ?_ | (simp;done))))
    refine dn 0 1 ?_ ?_ (IH (rest,k+1,_,_) ⟨g2,h2,hO _ _ _ _ (hO _ _ _ _ kE _) _,rfl⟩ (Nat.lt_succ_self _))
    ·(simp only [go_sem,hD,hJ,hP,hY,aF bq];try exact bo)
    ·(simp only [go_sem,hD,hJ,hP,hY,aF bq];try exact bo)
   ·have c2:decide (deep≤12)=false:=by simp;omega
    simp only [c2,Bool.false_eq_true, ↓reduceIte]at h2
    repeat' (first
 | simp only [go_sem,hD,hJ,hP,hY,c1,c2,cB]
 | (with_reducible refine aJ hQ ?_;simp only [ay,az,Option.some.injEq,exists_eq_left',go_sem,hD,hJ,hP,hY];repeat' (first | exact Ok.out | with_reducible refine aM ?_ ?_ | (simp;done))))
    refine dn 0 1 ?_ ?_ (IH (rest,k+1,out++ [⟨v,deep,bD,aQ⟩],out.length+1) ⟨g2,h2,kE,by simp⟩ (Nat.lt_succ_self _))
    ·(simp only [go_sem,hD,hJ,hP,hY,aF bq,xW,List.map_append,List.map_cons,List.map_nil];try exact bo)
    ·(simp only [go_sem,hD,hJ,hP,hY,aF bq,xW,List.map_append,List.map_cons,List.map_nil];try exact bo)
  ·have c1:decide ((out.length:Int)≤200)=false:=by simp;omega
   simp only [c1,Bool.false_eq_true, ↓reduceIte]at h2
   subst h2
   repeat' (first
 | simp only [go_sem,hD,hJ,hP,hY,c1]
 | (with_reducible refine aJ hQ ?_;simp only [ay,az,Option.some.injEq,exists_eq_left',go_sem,hD,hJ,hP,hY];repeat' (first | exact Ok.out | with_reducible refine aM ?_ ?_ | (simp;done))))
theorem JL : ∀ N,N<4611686018427387904→G8 N:=by
 intro N
 induction N with
 | zero=>exact fun _ l deep bD aQ out h=>absurd h (Nat.not_lt_zero _)
 | succ N ih=>
  intro h l deep bD aQ out hs yB hd ho s t ht
  exact(OU (by omega) (ih (by omega)) hs yB hd ho).NF (pre:= [_,_,_,_]) (post:= []) (by simp [D.bE,D.ok,Tag.ok,o6]) rfl (wS out) (wS _) ht
theorem JM {l:List Sm} (hs:Sm.aS l<4611686018427387000) (s:St) :
 aI Try.prog ji [.slice .shared 13 (l.map bd), .int .i64 1, .int .i64 0, .bool false, .slice .full 0 []] s (.slice .shared 16 ((cw 1 0 false [] l).map dR)) s:=by
 refine aI.pure ?_ (by simp [D.bE,D.ok,Tag.ok,o6,D.gM]) (by simp [D.ok,Tag.ok,wS]) s
 obtain⟨N,hN⟩ : ∃ N,N=Sm.aS l:=⟨_,rfl⟩
 have ih:=JL N (by omega)
 replace hs:Sm.aS l<N+1∧N<4611686018427387000:=by omega
 obtain⟨hs,hN⟩:=hs
 generalize hR:cw 1 0 false [] l=R
 obtain⟨deep,E0⟩ : ∃ d:Int,d=1:=⟨_,rfl⟩
 obtain⟨bD,JN⟩ : ∃ d:Int,d=0:=⟨_,rfl⟩
 obtain⟨aQ,JO⟩ : ∃ d:Bool,d=false:=⟨_,rfl⟩
 rw [← E0, ← JN, ← JO]at hR
 rw [← E0, ← JN, ← JO]
 have yB:0≤deep:=by omega
 have hd:deep≤13:=by omega
 clear E0 JN JO
 have ho:([] : List It).length≤201:=Nat.zero_le _
 unfold S0
 refine aI.go sQ rfl fun B Q hB hQ=> ?_
 have⟨hD,hJ,hP,hY⟩:=bZ
 repeat' (first
 | simp only [go_sem,hD,hJ,hP,hY]
 | (with_reducible refine aJ hQ ?_;simp only [ay,az,Option.some.injEq,exists_eq_left',go_sem,hD,hJ,hP,hY];repeat' (first | exact Ok.out | with_reducible refine aM ?_ ?_ | (simp;done))))
 refine bp.pB 4 16 rfl ?_
 simp only [go_sem,hD,hJ,hP,hY]
 refine dD 0 1 (bp.ind (ι:=List Sm×Nat×List It×Nat) (fun i=>l.drop i.2.1=i.1∧cw deep bD aQ i.2.2.1 i.1=R∧i.2.2.1.length≤201∧i.2.2.2=i.2.2.1.length) (fun i=>i.1.length)
  (fun i=> [(0, .slice .shared 13 (l.map bd)),(1, .int .i64 deep),(2, .int .i64 bD),(3, .bool aQ),(4, .slice (.tok 0) 16 (i.2.2.1.map dR)),(11, .int .i64 (i.2.1:Int))]) (fun i=>⟨[],[some i.2.2.2]⟩) ?_ (l,0,[],0) ⟨rfl,hR,ho,rfl⟩)
 rintro⟨rest,k,out,n⟩ ⟨h1,h2,h3,h4⟩ IH
 dsimp only at h1 h2 h3 h4
 subst h4
 have hlen:l.length<4611686018427387904:=by have:=Sm.cZ l;omega
 cases rest with
 | nil=>
  have hD:=drop_nil h1
  simp only [cw]at h2
  subst h2
  repeat' (first
 | simp only [go_sem,hD,hJ,hP,hY]
 | (with_reducible refine aJ hQ ?_;simp only [ay,az,Option.some.injEq,exists_eq_left',go_sem,hD,hJ,hP,hY];repeat' (first | exact Ok.out | with_reducible refine aM ?_ ?_ | (simp;done))))
 | cons v rest=>
  obtain⟨hJ,g2,hD,g4⟩:=drop_cons h1
  have bq:k<4611686018427387904:=by omega
  have hv:=Sm.b7 (List.mem_of_getElem? hJ)
  have kU:Sm.aS v.aZ<N∧Sm.aS v.aQ<N:=by
   obtain⟨_,_,_,_,_,_,_,_,_,_⟩:=v
   simp only [Sm.size]at hv ⊢;omega
  simp only [cw]at h2
  by_cases hc:out.length≤200
  ·have c1:decide ((out.length:Int)≤200)=true:=by simp;omega
   simp only [c1, ↓reduceIte,Bd]at h2
   have hP:(out.length+1)*233≤bF:=by unfold bF;omega
   have kE:(out++ [(⟨v,deep,bD,aQ⟩:It)]).length≤201:=by simp;omega
   have hw:IntKind.wrap .i64 (deep+1)=deep+1:=dj (by omega) (by omega)
   by_cases T3:deep≤12
   ·have c2:decide (deep≤12)=true:=by simp;omega
    simp only [c2, ↓reduceIte]at h2
    have f1:=fun {s:St} {t:Nat} (ht:s.av[t]? = some (some (out++ [(⟨v,deep,bD,aQ⟩:It)]).length))=>ih v.aZ (deep+1) v.id false _ kU.1 (by omega) (by omega) kE ht
    have f2:=fun {s:St} {t:Nat} (ht:s.av[t]? = some (some (cw (deep+1) v.id false (out++ [(⟨v,deep,bD,aQ⟩:It)]) v.aZ).length))=>ih v.aQ (deep+1) v.id true _ kU.2 (by omega) (by omega) (hO _ _ _ _ kE _) ht
    simp only [List.map_append,List.map_cons,List.map_nil,xW,List.length_append,List.length_cons,List.length_nil]at f1
    repeat' (first
 | simp only [go_sem,hD,hJ,hP,hY,c1,c2,hw,cB]
 | (with_reducible refine CU (f1 (by with_unfolding_all rfl)) ?_)
 | (with_reducible refine CU (f2 (by with_unfolding_all rfl)) ?_)
 | (with_reducible refine aJ hQ ?_;simp only [ay,az,Option.some.injEq,exists_eq_left',go_sem,hD,hJ,hP,hY];repeat' (first | exact Ok.out | with_reducible refine aM ?_ ?_ | (simp;done))))
    refine dn 0 1 ?_ ?_ (IH (rest,k+1,_,_) ⟨g2,h2,hO _ _ _ _ (hO _ _ _ _ kE _) _,rfl⟩ (Nat.lt_succ_self _))
    ·(simp only [go_sem,hD,hJ,hP,hY,aF bq];try exact bo)
    ·(simp only [go_sem,hD,hJ,hP,hY,aF bq];try exact bo)
   ·have c2:decide (deep≤12)=false:=by simp;omega
    simp only [c2,Bool.false_eq_true, ↓reduceIte]at h2
    repeat' (first
 | simp only [go_sem,hD,hJ,hP,hY,c1,c2,cB]
 | (with_reducible refine aJ hQ ?_;simp only [ay,az,Option.some.injEq,exists_eq_left',go_sem,hD,hJ,hP,hY];repeat' (first | exact Ok.out | with_reducible refine aM ?_ ?_ | (simp;done))))
    refine dn 0 1 ?_ ?_ (IH (rest,k+1,out++ [⟨v,deep,bD,aQ⟩],out.length+1) ⟨g2,h2,kE,by simp⟩ (Nat.lt_succ_self _))
    ·(simp only [go_sem,hD,hJ,hP,hY,aF bq,xW,List.map_append,List.map_cons,List.map_nil];try exact bo)
    ·(simp only [go_sem,hD,hJ,hP,hY,aF bq,xW,List.map_append,List.map_cons,List.map_nil];try exact bo)
  ·have c1:decide ((out.length:Int)≤200)=false:=by simp;omega
   simp only [c1,Bool.false_eq_true, ↓reduceIte]at h2
   subst h2
   repeat' (first
 | simp only [go_sem,hD,hJ,hP,hY,c1]
 | (with_reducible refine aJ hQ ?_;simp only [ay,az,Option.some.injEq,exists_eq_left',go_sem,hD,hJ,hP,hY];repeat' (first | exact Ok.out | with_reducible refine aM ?_ ?_ | (simp;done))))
theorem G9 {f:Pc} (hs:Sm.aS f.body<4611686018427387000) (s:St):aI Try.prog n4 [.agg (bL f)] s (.slice .shared 16 (f.flat.map dR)) s:=by
 refine aI.pure ?_ (by simp only [D.bE,D.ok,tM];rfl) (by simp [D.ok,Tag.ok,wS]) s
 have h:=fun s=>JM hs s
 unfold S0
 refine aI.go zr rfl fun B Q hB hQ=> ?_
 have⟨hD,hJ,hP,hY⟩:=bZ
 repeat' (first
 | simp only [go_sem,hD,hJ,hP,hY,Pc.flat]
 | (with_reducible refine CU (h _) ?_)
 | (with_reducible first | refine cy fun hc=> ?_ | refine cz fun hc=> ?_ | refine cA (fun hc=> ?_) fun hc=> ?_) <;> (try simp only [hc,bs, ↓reduceIte]at h) <;> try simp only [hc]
 | (with_reducible refine aJ hQ ?_;simp only [ay,az,c9,da,go_sem,hD,hJ,hP,hY,Pc.flat];repeat' (first | exact Ok.out | with_reducible refine aM ?_ ?_ | (simp;done))))
end Go.Abs

/-! RefMay4 -/

namespace Go.Abs
set_option maxRecDepth 8000
open Go.Proofs
theorem Pc.Be (f:Pc):f.flat.length≤201:=hO _ _ _ _ (Nat.zero_le _) _
theorem Q5 {p:Pg} (hs:Pc.aS p.procs<4611686018427387000) (s:St):aI Try.prog sc [.agg (bN p)] s (.slice .shared 16 (p.all.map dR)) s:=by
 refine aI.pure ?_ (by simp only [D.bE,D.ok,jh];rfl) (by simp [D.ok,Tag.ok,wS]) s
 have hlen:p.procs.length<4611686018427387904:=by have:=Pc.cZ p.procs;omega
 generalize hR:p.all=R
 unfold Pg.all at hR
 unfold S0
 refine aI.go A5 rfl fun B Q hB hQ=> ?_
 have⟨hD,hJ,hP,hY⟩:=bZ
 repeat' (first
 | simp only [go_sem,hD,hJ,hP,hY]
 | (with_reducible refine aJ hQ ?_;simp only [ay,az,c9,da,go_sem,hD,hJ,hP,hY];repeat' (first | exact Ok.out | with_reducible refine aM ?_ ?_ | (simp;done))))
 refine bp.pB 3 16 rfl ?_
 simp only [go_sem,hD,hJ,hP,hY]
 refine dD 1 1 (bp.ind (ι:=List Pc×Nat×List It×Nat) (fun i=>p.procs.drop i.2.1=i.1∧allM i.2.2.1 i.1=R∧i.2.2.1.length≤200∧i.2.2.2=i.2.2.1.length) (fun i=>i.1.length)
  (fun i=> [(1, .ptr 0 0),(3, .slice (.tok 0) 16 (i.2.2.1.map dR)),(7, .slice .shared 5 (p.procs.map bL)),(8, .int .i64 (p.procs.length:Int)),(9, .int .i64 (i.2.1:Int))]) (fun i=>⟨[bN p],[some i.2.2.2]⟩) ?_ (p.procs,0,[],0) ⟨rfl,hR,Nat.zero_le _,rfl⟩)
 rintro⟨rest,k,out,n⟩ ⟨h1,h,h3,h4⟩ IH
 dsimp only at h1 h h3 h4
 subst h4
 cases rest with
 | nil=>
  have hD:=drop_nil h1
  simp only [allM]at h
  subst h
  repeat' (first
 | simp only [go_sem,hD,hJ,hP,hY]
 | (with_reducible refine aJ hQ ?_;simp only [ay,az,c9,da,go_sem,hD,hJ,hP,hY];repeat' (first | exact Ok.out | with_reducible refine aM ?_ ?_ | (simp;done))))
 | cons f rest=>
  obtain⟨hJ,g2,hD,g4⟩:=drop_cons h1
  have bq:k<4611686018427387904:=by omega
  have hf:=Pc.b7 (List.mem_of_getElem? hJ)
  have hb:Sm.aS f.body<4611686018427387000:=by simp only [Pc.size]at hf;omega
  have ke:=fun s=>G9 hb s
  have abM:=f.Be
  have hP:(out.length+f.flat.length)*233≤bF:=by unfold bF;omega
  simp only [allM,List.length_append]at h
  have eB:=fun(o:List (List D))=>AU (size:=16) (bytes:=232) (t:=0) (rows:=out.map dR) (new:=f.flat.map dR) (g:= .shared) (s:=⟨o,[some out.length]⟩) (by simpa using hP) (by simp)
  repeat' (first
 | simp only [go_sem,hD,hJ,hP,hY,eB]
 | (with_reducible refine CU (ke _) ?_)
 | (with_reducible first | refine cy fun hc=> ?_ | refine cz fun hc=> ?_ | refine cA (fun hc=> ?_) fun hc=> ?_) <;> (try simp only [hc,bs, ↓reduceIte]at h) <;> try simp only [hc]
 | (with_reducible refine aJ hQ ?_;(try cases h);simp only [ay,az,c9,da,go_sem,hD,hJ,hP,hY,eB];repeat' (first | exact Ok.out | with_reducible refine aM ?_ ?_ | (simp;done))))
  refine dn 1 1 ?_ ?_ (IH (rest,k+1,out++f.flat,out.length+f.flat.length) ⟨g2,h,by rename_i hc;simp only [decide_eq_false_iff_not]at hc;simp only [List.length_append];omega,by simp⟩ (Nat.lt_succ_self _))
  ·(simp only [go_sem,hD,hJ,hP,hY,aF bq];try exact bo)
  ·(simp only [go_sem,hD,hJ,hP,hY,aF bq];try exact bo)
structure Pg.oN (p:Pg):Prop where
 sz:p.size<4611686018427387000
 Bf : ∀ t∈p.globals,t.length<4611686018427387904
 lR : ∀ f∈p.procs,f.name.length<4611686018427387904∧(∀ t∈f.vars,t.length<4611686018427387904)∧(∀ t∈f.fin,t.length<4611686018427387904)∧∀ a∈f.params,a.name.length<4611686018427387904
 items : ∀ i∈p.all,i.s.oN
end Go.Abs

/-! TMay3 -/

namespace Go.Abs
set_option maxRecDepth 8000
open Go.Proofs
def gate (nest:Int) (len n:Nat) (r:Bool×Nat):Bool×Nat:=if decide (nest > 12) && decide ((len:Int) > 0)then(false,n)else r
mutual
def Sm.lC (nest:Int) (n:Nat):Sm→Bool×Nat
 | ⟨id,kind,labels,name,proc,x,has,args,aZ,aQ⟩=>
  if decide (((n+1:Nat):Int) > 200) || id != ((n+1:Nat):Int) || !(dk labels) || !(Sm.fields ⟨id,kind,labels,name,proc,x,has,args,aZ,aQ⟩)then(false,n+1)
  else if !(gate (nest+1) aZ.length (n+1) (Sm.dv (nest+1) (n+1) aZ)).1 then(false,(gate (nest+1) aZ.length (n+1) (Sm.dv (nest+1) (n+1) aZ)).2)
  else gate (nest+1) aQ.length (gate (nest+1) aZ.length (n+1) (Sm.dv (nest+1) (n+1) aZ)).2 (Sm.dv (nest+1) (gate (nest+1) aZ.length (n+1) (Sm.dv (nest+1) (n+1) aZ)).2 aQ)
def Sm.dv (nest:Int) (n:Nat):List Sm→Bool×Nat
 | []=>(true,n)
 | s::l=>if !(Sm.lC nest n s).1 then(false,(Sm.lC nest n s).2)else Sm.dv nest (Sm.lC nest n s).2 l
end
def Sm.eD (nest:Int) (n:Nat) (l:List Sm):Bool×Nat:=gate nest l.length n (Sm.dv nest n l)
theorem xX (nest:Int) (n:Nat) (s:Sm):Sm.lC nest n s =
 if decide (((n+1:Nat):Int) > 200) || s.id != ((n+1:Nat):Int) || !(dk s.labels) || !(s.fields)then(false,n+1)
 else if !(Sm.eD (nest+1) (n+1) s.aZ).1 then(false,(Sm.eD (nest+1) (n+1) s.aZ).2)
 else Sm.eD (nest+1) (Sm.eD (nest+1) (n+1) s.aZ).2 s.aQ:=by
 cases s;simp only [Sm.lC,Sm.eD];rfl
mutual
def Sm.qt:Sm→Prop
 | ⟨id,kind,labels,name,proc,x,has,args,aZ,aQ⟩=>Sm.oN ⟨id,kind,labels,name,proc,x,has,args,aZ,aQ⟩∧Sm.gB aZ∧Sm.gB aQ
def Sm.gB:List Sm→Prop
 | []=>True
 | s::l=>s.qt∧Sm.gB l
end
theorem vJ (s:Sm):s.qt↔s.oN∧Sm.gB s.aZ∧Sm.gB s.aQ:=by cases s;simp only [Sm.qt]
theorem wT {s:Sm} : ∀ {l:List Sm},Sm.gB l→s∈l→s.qt
 | y::l,h,m=>by
  simp only [Sm.gB]at h
  rcases List.mem_cons.1 m with rfl | m
  ·exact h.1
  ·exact wT h.2 m
mutual
theorem Ms (nest:Int) (n:Nat) : ∀ s:Sm,n≤201→(Sm.lC nest n s).2≤202∧((Sm.lC nest n s).1=true→(Sm.lC nest n s).2≤200)
 | ⟨id,kind,labels,name,proc,x,has,args,aZ,aQ⟩,hn=>by
  simp only [Sm.lC]
  split
  ·exact⟨by dsimp only;omega,fun h=>by cases h⟩
  rename_i hc
  simp only [Bool.or_eq_true,decide_eq_true_eq,not_or]at hc
  have sS:n+1≤200:=by omega
  have g1 : ∀ (nest:Int) (l:List Sm) (m:Nat),m≤200→(Sm.dv nest m l).2≤202∧((Sm.dv nest m l).1=true→(Sm.dv nest m l).2≤200)→
   (gate nest l.length m (Sm.dv nest m l)).2≤202∧((gate nest l.length m (Sm.dv nest m l)).1=true→(gate nest l.length m (Sm.dv nest m l)).2≤200):=by
   intro nest l m hm h
   unfold gate
   split
   ·exact⟨by dsimp only;omega,fun h=>by cases h⟩
   ·exact h
  have h1:=g1 (nest+1) aZ (n+1) sS (uJ (nest+1) (n+1) aZ sS)
  split
  ·exact⟨h1.1,fun h=>by cases h⟩
  rename_i MW
  have h2:=h1.2 (by simpa using MW)
  exact g1 (nest+1) aQ _ h2 (uJ (nest+1) _ aQ h2)
theorem uJ (nest:Int) (n:Nat) : ∀ l:List Sm,n≤200→(Sm.dv nest n l).2≤202∧((Sm.dv nest n l).1=true→(Sm.dv nest n l).2≤200)
 | [],hn=>by simp only [Sm.dv];exact⟨by omega,fun _=>hn⟩
 | s::l,hn=>by
  simp only [Sm.dv]
  have h1:=Ms nest n s (by omega)
  split
  ·exact⟨h1.1,fun h=>by cases h⟩
  rename_i hc
  exact uJ nest _ l (h1.2 (by simpa using hc))
end
theorem xY {nest:Int} {n:Nat} {l:List Sm} (hn:n≤200):(Sm.eD nest n l).2≤202∧((Sm.eD nest n l).1=true→(Sm.eD nest n l).2≤200):=by
 unfold Sm.eD gate
 split
 ·exact⟨by dsimp only;omega,fun h=>by cases h⟩
 ·exact uJ nest n l hn
theorem Mt : ∀ (m:Nat) (l:List Sm),Sm.aS l≤m→Sm.aS l<4611686018427387000→Sm.gB l→∀ (nest:Int) (n:Nat),0≤nest→nest≤13→n≤200→
 aI Try.prog gx [.ptr 0 0, .slice .shared 13 (l.map bd), .int .i64 nest] ⟨[[.int .i64 n]],[]⟩ (.bool (Sm.eD nest n l).1) ⟨[[.int .i64 (Sm.eD nest n l).2]],[]⟩:=by
 intro m
 induction m with
 | zero=>
  intro l h hs hf nest n h0 h13 hn
  cases l with
  | nil=>
   have d1:decide ((0:Int) > 0)=false:=rfl
   have e:Sm.eD nest n [] = (true,n):=by simp [Sm.eD,gate,Sm.dv]
   have z:decide ((0:Int)<0)=false:=rfl
   rw [e]
   refine aI.go mR rfl fun B Q hB hQ=> ?_
   have⟨hD,hJ,hP,hY⟩:=bZ
   repeat' (first
 | simp only [go_sem,hD,hJ,hP,hY,d1,z]
 | (with_reducible refine bp.zJ ?_)
 | (with_reducible first | refine cy fun hc=> ?_ | refine cz fun hc=> ?_ | refine cA (fun hc=> ?_) fun hc=> ?_) <;> (try simp only [hc,bs, ↓reduceIte]at h) <;> try simp only [hc]
 | (with_reducible refine aJ hQ ?_;(try cases h);simp only [ay,az,c9,da,go_sem,hD,hJ,hP,hY,d1,z];try exact lq)
 | (cases h;done))
  | cons s l=>simp only [Sm.aS]at h;omega
 | succ m ih=>
  intro l h hs hf nest n h0 h13 hn
  generalize hR:Sm.eD nest n l=R
  have hlen:=Sm.cZ l
  unfold Sm.eD gate at hR
  have h:=hR
  refine aI.go mR rfl fun B Q hB hQ=> ?_
  have⟨hD,hJ,hP,hY⟩:=bZ
  repeat' (first
 | simp only [go_sem,hD,hJ,hP,hY]
 | (with_reducible first | refine cy fun hc=> ?_ | refine cz fun hc=> ?_ | refine cA (fun hc=> ?_) fun hc=> ?_) <;> (try simp only [hc,bs, ↓reduceIte]at h) <;> try simp only [hc]
 | (with_reducible refine aJ hQ ?_;(try cases h);simp only [ay,az,c9,da,go_sem,hD,hJ,hP,hY];repeat' (first | exact Ok.out | with_reducible refine aM ?_ ?_ | (simp;done)))
 | (cases h;done))
  all_goals
   have Q6:l≠ []→nest≤12:=by
    intro dS
    have:l.length≠0:=by simpa using dS
    simp_all <;> omega
   refine dD 1 0 (bp.ind (ι:=List Sm×Nat×Nat) (fun i=>l.drop i.2.1=i.1∧Sm.dv nest i.2.2 i.1=R∧i.2.2≤200) (fun i=>i.1.length)
    (fun i=> [(0, .ptr 0 0),(2, .int .i64 nest),(16, .slice .shared 13 (l.map bd)),(17, .int .i64 (l.length:Int)),(18, .int .i64 (i.2.1:Int))]) (fun i=>⟨[[.int .i64 (i.2.2:Int)]],[]⟩) ?_ (l,0,n) ⟨rfl,h,hn⟩)
   rintro⟨rest,k,j⟩ ⟨h1,h,hj⟩ IH
   dsimp only at h1 h hj
   cases rest with
   | nil=>
    have hD:=drop_nil h1
    simp only [Sm.dv]at h
    repeat' (first
 | simp only [go_sem,hD,hJ,hP,hY]
 | (with_reducible first | refine cy fun hc=> ?_ | refine cz fun hc=> ?_ | refine cA (fun hc=> ?_) fun hc=> ?_) <;> (try simp only [hc,bs, ↓reduceIte]at h) <;> try simp only [hc]
 | (with_reducible refine aJ hQ ?_;exact jE)
 | (cases h;done))
   | cons s rest=>
    obtain⟨hJ,g2,hD,g4⟩:=drop_cons h1
    have hP:k<4611686018427387904:=by omega
    have kx:=List.mem_of_getElem? hJ
    have dJ:=Sm.b7 kx
    have abN:=Q6 (by rintro rfl;simp at kx)
    obtain⟨wo,hft,hfe⟩:=(vJ s).1 (wT hf kx)
    have T4:Sm.aS s.aZ<s.size∧Sm.aS s.aQ<s.size:=by cases s;simp only [Sm.size];omega
    have w1:IntKind.wrap .i64 ((j:Int)+1)=((j+1:Nat):Int):=by rw [dj] <;> omega
    have w2:IntKind.wrap .i64 (nest+1)=nest+1:=dj (by omega) (by omega)
    have c1:=fun s=>sk wo.TX wo.lab s
    have c2:=fun s=>JJ wo s
    simp only [Sm.dv,xX]at h
    by_cases Ha:j+1≤200
    ·have r1:=xY (nest:=nest+1) (l:=s.aZ) Ha
     have c3:=fun s' ho=>(ih s.aZ (by omega) (by omega) hft (nest+1) (j+1) (by omega) (by omega) Ha).Ih (s:=s') (o:=0) (by simp [D.bE,D.ok,o6,Tag.ok]) rfl rfl rfl ho
     by_cases sT:(Sm.eD (nest+1) (j+1) s.aZ).1=true
     ·have c4:=fun s' ho=>(ih s.aQ (by omega) (by omega) hfe (nest+1) _ (by omega) (by omega) (r1.2 sT)).Ih (s:=s') (o:=0) (by simp [D.bE,D.ok,o6,Tag.ok]) rfl rfl rfl ho
      have r2:=xY (nest:=nest+1) (l:=s.aQ) (r1.2 sT)
      simp only [sT]at c3
      simp only [sT,Bool.not_true,Bool.false_eq_true, ↓reduceIte]at h
      repeat' (first
 | simp only [go_sem,hD,hJ,hP,hY,w1,w2,sT]
 | (with_reducible refine CU (c1 _) ?_)
 | (with_reducible refine CU (c2 _) ?_)
 | (with_reducible refine CU (c3 _ rfl) ?_)
 | (with_reducible refine CU (c4 _ rfl) ?_)
 | (with_reducible first | refine cy fun hc=> ?_ | refine cz fun hc=> ?_ | refine cA (fun hc=> ?_) fun hc=> ?_) <;> (try simp only [hc,bs, ↓reduceIte]at h) <;> try simp only [hc]
 | (with_reducible refine aJ hQ ?_;(try cases h);simp only [ay,az,c9,da,go_sem,hD,hJ,hP,hY,w1,w2,sT];try exact lq)
 | (cases h;done))
      refine dD 1 0 (IH (rest,k+1,(Sm.eD (nest+1) (Sm.eD (nest+1) (j+1) s.aZ).2 s.aQ).2) ⟨g2,h,r2.2 (by assumption)⟩ (Nat.lt_succ_self _))
     ·have sT:(Sm.eD (nest+1) (j+1) s.aZ).1=false:=by simpa using sT
      simp only [sT]at c3
      simp only [sT,Bool.not_false, ↓reduceIte]at h
      repeat' (first
 | simp only [go_sem,hD,hJ,hP,hY,w1,w2,sT]
 | (with_reducible refine CU (c1 _) ?_)
 | (with_reducible refine CU (c2 _) ?_)
 | (with_reducible refine CU (c3 _ rfl) ?_)
 | (with_reducible first | refine cy fun hc=> ?_ | refine cz fun hc=> ?_ | refine cA (fun hc=> ?_) fun hc=> ?_) <;> (try simp only [hc,bs, ↓reduceIte]at h) <;> try simp only [hc]
 | (with_reducible refine aJ hQ ?_;(try cases h);simp only [ay,az,c9,da,go_sem,hD,hJ,hP,hY,w1,w2,sT];try exact lq)
 | (cases h;done))
    ·have d1:decide (((j+1:Nat):Int) > 200)=true:=by simp;omega
     simp only [d1,Bool.true_or,Bool.not_false, ↓reduceIte]at h
     repeat' (first
 | simp only [go_sem,hD,hJ,hP,hY,w1,w2,d1]
 | (with_reducible refine CU (c1 _) ?_)
 | (with_reducible refine CU (c2 _) ?_)
 | (with_reducible first | refine cy fun hc=> ?_ | refine cz fun hc=> ?_ | refine cA (fun hc=> ?_) fun hc=> ?_) <;> (try simp only [hc,bs, ↓reduceIte]at h) <;> try simp only [hc]
 | (with_reducible refine aJ hQ ?_;(try cases h);simp only [ay,az,c9,da,go_sem,hD,hJ,hP,hY,w1,w2,d1];try exact lq)
 | (cases h;done))
end Go.Abs

/-! TMay4 -/

namespace Go.Abs
set_option maxRecDepth 8000
open Go.Proofs
def Pc.dv (n:Nat):List Pc→Bool
 | []=>true
 | f::l=>
  if decide ((f.params.length:Int) > 8) || decide ((f.vars.length:Int) > 16) || !(isName f.name) || !(dk f.vars) || !(dk f.fin)then false
  else if !(Pm.ej f.params)then false
  else if !(Sm.eD 1 n f.body).1 then false
  else Pc.dv (Sm.eD 1 n f.body).2 l
def Pg.xZ (p:Pg):Bool:=
 if decide ((p.globals.length:Int) > 16) || decide ((p.procs.length:Int) > 16) || !(dk p.globals)then false
 else Pc.dv 0 p.procs
structure Pg.zR (p:Pg):Prop where
 sz:p.size<4611686018427387000
 Bf : ∀ t∈p.globals,t.length<4611686018427387904
 lR : ∀ f∈p.procs,f.name.length<4611686018427387904∧(∀ t∈f.vars,t.length<4611686018427387904)∧(∀ t∈f.fin,t.length<4611686018427387904)∧∀ a∈f.params,a.name.length<4611686018427387904
 body : ∀ f∈p.procs,Sm.gB f.body
theorem OV {p:Pg} (hf:p.zR) (s:St):aI Try.prog sd [.agg (bN p)] s (.bool p.xZ) s:=by
 refine aI.pure ?_ (by simp only [D.bE,D.ok,jh];rfl) rfl s
 obtain⟨dJ,vg,OW,Dk⟩:=hf
 have qu:Pc.aS p.procs<4611686018427387000:=by simp only [Pg.size]at dJ;omega
 have Q7:p.globals.length<4611686018427387904:=by simp only [Pg.size]at dJ;omega
 have abx:p.procs.length<4611686018427387904:=by have:=Pc.cZ p.procs;omega
 have hg:=fun s=>sk Q7 vg s
 unfold S0
 generalize h:p.xZ=R
 unfold Pg.xZ at h
 refine aI.go A6 rfl fun B Q hB hQ=> ?_
 have⟨hD,hJ,hP,hY⟩:=bZ
 repeat' (first
 | simp only [go_sem,hD,hJ,hP,hY]
 | (with_reducible refine CU (hg _) ?_)
 | (with_reducible first | refine cy fun hc=> ?_ | refine cz fun hc=> ?_ | refine cA (fun hc=> ?_) fun hc=> ?_) <;> (try simp only [hc,bs, ↓reduceIte]at h) <;> try simp only [hc]
 | (with_reducible refine aJ hQ ?_;exact jE)
 | (cases h;done))
 refine dD 2 0 (bp.ind (ι:=List Pc×Nat×Nat) (fun i=>p.procs.drop i.2.1=i.1∧Pc.dv i.2.2 i.1=R∧i.2.2≤200) (fun i=>i.1.length)
  (fun i=> [(1, .ptr 0 0),(3, .ptr 1 0),(27, .slice .shared 5 (p.procs.map bL)),(28, .int .i64 (p.procs.length:Int)),(29, .int .i64 (i.2.1:Int))]) (fun i=>⟨[bN p,[.int .i64 (i.2.2:Int)]],[]⟩) ?_ (p.procs,0,0) ⟨rfl,h,Nat.zero_le _⟩)
 rintro⟨rest,k,n⟩ ⟨h1,h,hn⟩ IH
 dsimp only at h1 h hn
 cases rest with
 | nil=>
  have hD:=drop_nil h1
  simp only [Pc.dv]at h
  repeat' (first
 | simp only [go_sem,hD,hJ,hP,hY]
 | (with_reducible first | refine cy fun hc=> ?_ | refine cz fun hc=> ?_ | refine cA (fun hc=> ?_) fun hc=> ?_) <;> (try simp only [hc,bs, ↓reduceIte]at h) <;> try simp only [hc]
 | (with_reducible refine aJ hQ ?_;exact jE)
 | (cases h;done))
 | cons f rest=>
  obtain⟨hJ,g2,hD,g4⟩:=drop_cons h1
  have bq:k<4611686018427387904:=by omega
  have kx:=List.mem_of_getElem? hJ
  have Lk:=Pc.b7 kx
  simp only [Pc.size]at Lk
  obtain⟨sU,hfv,hff,hfp⟩:=OW f kx
  have OX:=tZ f.name sU
  have hv:=fun s=>sk (by omega) hfv s
  have he:=fun s=>sk (by omega) hff s
  have hb:=fun s' o ho=>(Mt _ f.body (Nat.le_refl _) (by omega) (Dk f kx) 1 n (by omega) (by omega) hn).Ih (s:=s') (o:=o) (by simp [D.bE,D.ok,o6,Tag.ok]) rfl rfl rfl ho
  have hle:=xY (nest:=1) (l:=f.body) hn
  simp only [Pc.dv]at h
  repeat' (first
 | simp only [go_sem,hD,hJ,hP,hY]
 | (with_reducible refine CU (OX _) ?_)
 | (with_reducible refine CU (hv _) ?_)
 | (with_reducible refine CU (he _) ?_)
 | (with_reducible first | refine cy fun hc=> ?_ | refine cz fun hc=> ?_ | refine cA (fun hc=> ?_) fun hc=> ?_) <;> (try simp only [hc,bs, ↓reduceIte]at h) <;> try simp only [hc]
 | (with_reducible refine aJ hQ ?_;exact jE)
 | (cases h;done))
  refine dD 3 0 (bp.ind (ι:=List Pm×Nat) (fun i=>f.params.drop i.2=i.1∧(if !(Pm.ej i.1)then false else if !(Sm.eD 1 n f.body).1 then false else Pc.dv (Sm.eD 1 n f.body).2 rest)=R) (fun i=>i.1.length)
   (fun i=> [(1, .ptr 0 0),(3, .ptr 1 0),(5, .ptr 2 0),(27, .slice .shared 5 (p.procs.map bL)),(28, .int .i64 (p.procs.length:Int)),(29, .int .i64 (k:Int)),(62, .slice .shared 2 (f.params.map fq)),(63, .int .i64 (f.params.length:Int)),(64, .int .i64 (i.2:Int))]) (fun i=>⟨[bN p,[.int .i64 (n:Int)],bL f],[]⟩) ?_ (f.params,0) ⟨rfl,h⟩)
  rintro⟨E1,j⟩ ⟨j1,h⟩ wU
  dsimp only at j1 h
  cases E1 with
  | nil=>
   have hD:=drop_nil j1
   simp only [Pm.ej,Bool.not_true,Bool.false_eq_true, ↓reduceIte]at h
   repeat' (first
 | simp only [go_sem,hD,hJ,hP,hY]
 | (with_reducible refine CU (hb _ _ rfl) ?_)
 | (with_reducible first | refine cy fun hc=> ?_ | refine cz fun hc=> ?_ | refine cA (fun hc=> ?_) fun hc=> ?_) <;> (try simp only [hc,bs, ↓reduceIte]at h) <;> try simp only [hc]
 | (with_reducible refine aJ hQ ?_;exact jE)
 | (cases h;done))
   refine dn 2 0 ?_ ?_ (IH (rest,k+1,(Sm.eD 1 n f.body).2) ⟨g2,h,hle.2 (by assumption)⟩ (Nat.lt_succ_self _))
   ·(simp only [go_sem,hD,hJ,hP,hY,aF bq];try exact bo)
   ·(simp only [go_sem,hD,hJ,hP,hY,aF bq];try exact bo)
  | cons a E1=>
   obtain⟨hJ,b2,hD,b4⟩:=drop_cons j1
   have Ha:j<4611686018427387904:=by omega
   have ha:=tZ a.name (hfp a (List.mem_of_getElem? hJ))
   simp only [Pm.ej]at h
   repeat' (first
 | simp only [go_sem,hD,hJ,hP,hY]
 | (with_reducible refine CU (ha _) ?_)
 | (with_reducible first | refine cy fun hc=> ?_ | refine cz fun hc=> ?_ | refine cA (fun hc=> ?_) fun hc=> ?_) <;> (try simp only [hc,bs, ↓reduceIte]at h) <;> try simp only [hc]
 | (with_reducible refine aJ hQ ?_;exact jE)
 | (cases h;done))
   refine dn 3 0 ?_ ?_ (wU (E1,j+1) ⟨b2,h⟩ (Nat.lt_succ_self _))
   ·(simp only [go_sem,hD,hJ,hP,hY,aF Ha];try exact bo)
   ·(simp only [go_sem,hD,hJ,hP,hY,aF Ha];try exact bo)
end Go.Abs

/-! MayFine -/

namespace Go.Abs
theorem sm {s:aD} (h:isName s=true):s.length≤8:=by
 cases s with
 | nil=>simp
 | cons c r=>
  simp only [isName]at h
  split at h
  ·cases h
  ·rename_i hc
   simp only [Bool.or_eq_true,decide_eq_true_eq,not_or]at hc
   simp only [List.length_cons];omega
theorem k9 {t:aD} : ∀ {l:List aD},dk l=true→t∈l→isName t=true
 | s::l,h,m=>by
  simp only [dk]at h
  cases hs:isName s
  ·simp [hs]at h
  ·simp [hs]at h
   rcases List.mem_cons.1 m with rfl | m
   ·exact hs
   ·exact k9 h m
theorem Bg {a:Ar} : ∀ {l:List Ar},Ar.ej l=true→a∈l→a.may=true
 | s::l,h,m=>by
  simp only [Ar.ej]at h
  cases hs:s.may
  ·simp [hs]at h
  ·simp [hs]at h
   rcases List.mem_cons.1 m with rfl | m
   ·exact hs
   ·exact Bg h m
theorem yC {a:Pm} : ∀ {l:List Pm},Pm.ej l=true→a∈l→isName a.name=true
 | s::l,h,m=>by
  simp only [Pm.ej]at h
  cases hs:isName s.name
  ·simp [hs]at h
  ·simp [hs]at h
   rcases List.mem_cons.1 m with rfl | m
   ·exact hs
   ·exact yC h m
mutual
theorem wV : ∀ x:Ex,x.form=true→x.texts
 | ⟨op,n,name,kids⟩,h=>by
  simp only [Ex.form]at h
  split at h
  ·cases h
  ·rename_i hc
   refine⟨?_,vh kids h⟩
   simp only [Bool.or_eq_true,Bool.and_eq_true,Bool.not_eq_true',not_or,not_and,Bool.not_eq_false]at hc
   cases hn:(name == [])
   ·have:=sm (hc.2 hn);omega
   ·simp at hn;subst hn;simp
theorem vh : ∀ l:List Ex,Ex.n5 l=true→Ex.pL l
 | [],_=>trivial
 | x::l,h=>by
  simp only [Ex.n5]at h
  cases hx:x.form
  ·simp [hx]at h
  ·simp [hx]at h
   exact⟨wV x hx,vh l h⟩
end
theorem yD {x:Ex} (h:x.may=true):x.texts:=by
 unfold Ex.may at h
 simp only [Bool.and_eq_true]at h
 exact wV x h.2
theorem wW {x:Ex} (h:x.none=true):x.texts:=by
 obtain⟨op,n,name,kids⟩:=x
 simp [Ex.none]at h
 obtain⟨⟨_,h1⟩,h2⟩:=h
 subst h1 h2
 exact⟨by simp,trivial⟩
mutual
theorem Hb {deep bD:Int} {aQ:Bool} {out:List It} {i:It} : ∀ s:Sm,i∈fC deep bD aQ out s→i∈out∨i.s.size≤s.size
 | ⟨id,kind,labels,name,proc,x,has,args,aZ,e⟩,h=>by
  simp only [fC]at h
  have key:i∈out++ [(⟨⟨id,kind,labels,name,proc,x,has,args,aZ,e⟩,deep,bD,aQ⟩:It)]→i∈out∨i.s.size≤(⟨id,kind,labels,name,proc,x,has,args,aZ,e⟩:Sm).size:=by
   intro h
   rcases List.mem_append.1 h with h | h
   ·exact .inl h
   ·simp at h;subst h;exact .inr (Nat.le_refl _)
  split at h
  ·rcases qv e h with h | h
   ·rcases qv aZ h with h | h
    ·exact key h
    ·right;simp only [Sm.size];omega
   ·right;simp only [Sm.size];omega
  ·exact key h
theorem qv {deep bD:Int} {aQ:Bool} {out:List It} {i:It} : ∀ l:List Sm,i∈cw deep bD aQ out l→i∈out∨i.s.size<Sm.aS l
 | [],h=>by simp only [cw]at h;exact .inl h
 | s::l,h=>by
  simp only [cw]at h
  split at h
  ·rcases qv l h with h | h
   ·rcases Hb s h with h | h
    ·exact .inl h
    ·right;simp only [Sm.aS];omega
   ·right;simp only [Sm.aS];omega
  ·exact .inl h
end
theorem Bh {i:It} : ∀ (l:List Pc) (out:List It),i∈allM out l→i∈out∨i.s.size<Pc.aS l
 | [],out,h=>by simp only [allM]at h;exact .inl h
 | f::l,out,h=>by
  have key:i∈out++f.flat→i∈out∨i.s.size<Pc.aS (f::l):=by
   intro h
   rcases List.mem_append.1 h with h | h
   ·exact .inl h
   ·rcases qv _ h with h | h
    ·simp at h
    ·right;simp only [Pc.aS,Pc.size];omega
  simp only [allM]at h
  split at h
  ·exact key h
  ·rcases Bh l _ h with h | h
   ·exact key h
   ·right;simp only [Pc.aS];omega
theorem wX {i:It} : ∀ (l:List It) (n:Nat),It.ej n l=true→i∈l→i.s.one=true
 | s::l,n,h,m=>by
  simp only [It.ej]at h
  split at h
  ·cases h
  ·rename_i hc
   simp only [Bool.or_eq_true,Bool.not_eq_true',not_or,Bool.not_eq_false]at hc
   rcases List.mem_cons.1 m with rfl | m
   ·exact hc.2
   ·exact wX l (n+1) h m
theorem Bi {s:Sm} (h:s.one=true) (hs:s.size<4611686018427387000):s.oN:=by
 unfold Sm.one at h
 split at h
 ·cases h
 split at h
 ·cases h
 split at h
 ·cases h
 split at h
 ·cases h
 rename_i c1 c2 c3 c4
 simp only [Bool.or_eq_true,Bool.and_eq_true,Bool.not_eq_true',not_or,not_and,Bool.not_eq_false,decide_eq_true_eq]at c1 c2 c3 c4
 obtain⟨⟨⟨⟨⟨_,_⟩,T5⟩,cx⟩,cn⟩,_⟩:=c1
 obtain⟨c21,c22⟩:=c2
 obtain⟨⟨R0,c32⟩,c33⟩:=c3
 have nm : ∀ {t:aD},isName t=true→t.length<4611686018427387904:=fun h=>by have:=sm h;omega
 have dJ:1+s.labels.length+s.x.size+Ar.aS s.args≤s.size:=by cases s;simp only [Sm.size];omega
 have vb:=Ar.cZ s.args
 refine⟨fun t ht=>nm (k9 T5 ht),by omega, ?_, ?_,by omega, ?_,by omega,fun a ha=> ?_⟩
 ·cases hn:s.hasName
  ·cases he:(s.name == [])
   ·exact nm (c22 ⟨hn,he⟩).2
   ·simp at he;rw [he];simp
  ·exact nm (c21 hn)
 ·cases Aj:s.rD
  ·rw [Aj]at R0
   have:s.proc = []:=by simpa using R0
   rw [this];simp
  ·exact nm (c32 Aj)
 ·cases hx:s.EW
  ·exact wW (cn hx)
  ·exact yD (cx hx)
 ·have hm:=Bg c4 ha
  have Ll:=Ar.b7 ha
  unfold Ar.may at hm
  split at hm
  ·simp only [Bool.and_eq_true]at hm
   exact⟨by omega,wW hm.2,nm hm.1⟩
  ·simp only [Bool.and_eq_true,beq_iff_eq]at hm
   exact⟨by omega,yD hm.2,by rw [hm.1];simp⟩
theorem yE {f:Pc} : ∀ {l:List Pc},Pc.lR l=true→f∈l→isName f.name=true∧dk f.vars=true∧dk f.fin=true∧Pm.ej f.params=true
 | s::l,h,m=>by
  simp only [Pc.lR]at h
  split at h
  ·cases h
  split at h
  ·cases h
  rename_i c1 c2
  simp only [Bool.or_eq_true,Bool.not_eq_true',not_or,Bool.not_eq_false]at c1 c2
  rcases List.mem_cons.1 m with rfl | m
  ·exact⟨c1.1.1.1.1,c1.1.2,c1.2,c2⟩
  ·exact yE h m
theorem JQ {p:Pg} (h:p.may=true) (hs:p.size<4611686018427387000):p.oN:=by
 unfold Pg.may at h
 split at h
 ·cases h
 split at h
 ·cases h
 split at h
 ·cases h
 rename_i c1 c2 c3
 simp only [Bool.or_eq_true,Bool.not_eq_true',not_or,Bool.not_eq_false]at c1 c2
 have nm : ∀ {t:aD},isName t=true→t.length<4611686018427387904:=fun h=>by have:=sm h;omega
 refine⟨hs,fun t ht=>nm (k9 c1.2 ht),fun f hf=> ?_,fun i hi=> ?_⟩
 ·obtain⟨a,b,c,d⟩:=yE c2 hf
  exact⟨nm a,fun t ht=>nm (k9 b ht),fun t ht=>nm (k9 c ht),fun t ht=>nm (yC d ht)⟩
 ·refine Bi (wX _ _ h hi) ?_
  rcases Bh _ _ hi with h1 | h1
  ·simp at h1
  ·simp only [Pg.size]at hs;omega
end Go.Abs

/-! MayEq -/

namespace Go.Abs
theorem Hc {t:aD} (h:isName t=true):t≠ []:=by rintro rfl;cases h
theorem JR (op n:Int) (name:aD) (kids:List Ex):Ex.form ⟨op,n,name,kids⟩=true↔
 lL op=(kids.length:Int)∧(op=1∨n=0)∧0≤n∧(op=2↔name≠ [])∧(name = []∨isName name=true)∧Ex.n5 kids=true:=by
 simp only [Ex.form]
 split
 ·rename_i h
  simp only [Bool.or_eq_true,Bool.and_eq_true,bne_iff_ne,ne_eq,decide_eq_true_eq,Bool.not_eq_true']at h
  refine⟨fun h=>(Bool.false_ne_true h).elim,fun⟨h1,h2,h3,h4,h5,_⟩=> ?_⟩
  exfalso
  rcases h with (((h | h) | h) | h) | h
  ·exact h h1
  ·rcases h2 with h2 | h2
   ·exact h.1 h2
   ·exact h.2 h2
  ·omega
  ·by_cases h2:op=2 <;> cases name <;> simp_all
  ·rcases h5 with h5 | h5
   ·subst h5;simp at h
   ·rw [h5]at h;simp at h
 ·rename_i h
  simp only [Bool.or_eq_true,Bool.and_eq_true,bne_iff_ne,ne_eq,decide_eq_true_eq,Bool.not_eq_true',not_or,not_and,Decidable.not_not,Bool.not_eq_false]at h
  obtain⟨⟨⟨⟨h1,h2⟩,h3⟩,h4⟩,h5⟩:=h
  refine⟨fun h=>⟨h1, ?_,by omega, ?_, ?_,h⟩,fun h=>h.2.2.2.2.2⟩
  ·by_cases h:op=1
   ·exact .inl h
   ·exact .inr (h2 h)
  ·by_cases h2:op=2 <;> cases name <;> simp_all
  ·cases name with
   | nil=>exact .inl rfl
   | cons c r=>exact .inr (h5 rfl)
theorem OY (op n:Int) (name:aD) (kids:List Ex) (k:Int):Ex.dp k ⟨op,n,name,kids⟩=true↔
 1≤k∧(kids.length:Int)=lL op∧(if op=1 then 0≤n∧name = []else if op=2 then n=0∧isName name=true else n=0∧name = []∧Ex.wQ (k - 1) kids=true):=by
 simp only [Ex.dp]
 split
 ·rename_i h
  simp only [Bool.or_eq_true,decide_eq_true_eq,bne_iff_ne,ne_eq]at h
  refine⟨fun h=>(Bool.false_ne_true h).elim,fun⟨h1,h2,_⟩=> ?_⟩
  rcases h with h | h
  ·omega
  ·exact(h h2).elim
 rename_i h
 simp only [Bool.or_eq_true,decide_eq_true_eq,bne_iff_ne,ne_eq,not_or,Decidable.not_not]at h
 have h1:1≤k:=by omega
 simp only [h1,h.2,true_and]
 by_cases o1:op=1
 ·subst o1
  cases name <;> simp
 ·have o1' : ¬ (op==1)=true:=by simpa using o1
  rw [if_neg o1',if_neg o1]
  by_cases o2:op=2
  ·subst o2;simp
  ·have o2' : ¬ (op==2)=true:=by simpa using o2
   rw [if_neg o2',if_neg o2]
   by_cases hn:n=0
   ·subst hn
    cases name <;> simp
   ·simp [hn]
mutual
theorem Lm : ∀ (x:Ex) (k:Int),0≤k→(x.dp k=true↔(x.depth:Int)≤k∧x.form=true)
 | ⟨op,n,name,kids⟩,k,hk=>by
  rw [OY,JR]
  have hd:Ex.depth ⟨op,n,name,kids⟩=Ex.lJ kids+1:=by simp only [Ex.depth]
  rw [hd]
  by_cases h1:1≤k
  ·have ih:=Hd kids (k - 1) (by omega)
   by_cases o1:op=1
   ·subst o1
    have ha:lL 1=0:=rfl
    rw [ha,if_pos rfl]
    constructor
    ·rintro⟨_,h2,h3,h4⟩
     have:kids = []:=List.eq_nil_of_length_eq_zero (by omega)
     subst this;subst h4
     simp [Ex.lJ,Ex.n5,h3];omega
    ·rintro⟨h2,h3,_,h4,h5,_⟩
     refine⟨h1,h3.symm,h4, ?_⟩
     cases name
     ·rfl
     ·simp at h5
   ·rw [if_neg o1]
    by_cases o2:op=2
    ·subst o2
     have ha:lL 2=0:=rfl
     rw [ha,if_pos rfl]
     constructor
     ·rintro⟨_,h2,h3,h4⟩
      have:kids = []:=List.eq_nil_of_length_eq_zero (by omega)
      subst this;subst h3
      have:=Hc h4
      simp [Ex.lJ,Ex.n5,h4,this];omega
     ·rintro⟨h2,h3,h4,_,h5,h6,_⟩
      refine⟨h1,h3.symm,h4.resolve_left o1, ?_⟩
      exact h6.resolve_left (h5.1 rfl)
    ·rw [if_neg o2,ih]
     constructor
     ·rintro⟨_,h2,h3,h4,h5,h6⟩
      subst h3;subst h4
      exact⟨by omega,h2.symm, .inr rfl,Int.le_refl _,by simp [o2], .inl rfl,h6⟩
     ·rintro⟨h2,h3,h4,_,h5,h6,h7⟩
      refine⟨h1,h3.symm,h4.resolve_left o1, ?_,by omega,h7⟩
      exact Decidable.byContradiction fun h=>o2 (h5.2 h)
  ·constructor
   ·rintro⟨h,_⟩;exact(h1 h).elim
   ·rintro⟨h,_⟩;omega
theorem Hd : ∀ (l:List Ex) (k:Int),0≤k→(Ex.wQ k l=true↔(Ex.lJ l:Int)≤k∧Ex.n5 l=true)
 | [],k,hk=>by simp [Ex.wQ,Ex.lJ,Ex.n5,hk]
 | x::l,k,hk=>by
  have h1:=Lm x k hk
  have h2:=Hd l k hk
  have hd:Ex.lJ (x::l)=max x.depth (Ex.lJ l):=by simp only [Ex.lJ]
  rw [hd]
  simp only [Ex.wQ,Ex.n5]
  cases hx:Ex.dp k x
  ·simp only [Bool.not_false, ↓reduceIte,Bool.false_eq_true,false_iff,not_and]
   intro h3
   have : ¬ ((x.depth:Int)≤k∧x.form=true):=by rw [← h1,hx];simp
   have hf:x.form=false:=by
    cases hf:x.form
    ·rfl
    ·exact(this ⟨by omega,hf⟩).elim
   simp [hf]
  ·have:=h1.1 hx
   simp only [Bool.not_true,Bool.false_eq_true, ↓reduceIte,this.2,h2]
   have h3:=this.1
   refine and_congr_left fun _=> ?_
   omega
end
theorem He (x:Ex):x.dp 20=x.may:=by
 rw [Bool.eq_iff_iff,Lm x 20 (by omega)]
 unfold Ex.may
 simp only [Bool.and_eq_true,decide_eq_true_eq]
 refine and_congr_left fun _=> ?_
 omega
theorem yF (x:Ex) (b:Bool):pP x b=if b then x.may else x.none:=by
 unfold pP
 rw [He]
 cases b <;> simp
theorem yG (t:aD) (b:Bool):ow t b=if b then isName t else t == []:=by
 unfold ow
 cases b <;> simp
theorem vi : ∀ l:List Ar,lh l=Ar.ej l
 | []=>rfl
 | a::l=>by
  simp only [lh,Ar.ej,Ar.may,yF,yG,vi l]
  grind
theorem T6 {α:Type} (l:List α):((l.length:Int)==0) = !(decide ((l.length:Int) > 0)):=by
 cases l with
 | nil=>rfl
 | cons a l=>
  have h1:(((a::l).length:Int)==0)=false:=by simp only [List.length_cons,beq_eq_false_iff_ne];omega
  have h2:decide (((a::l).length:Int) > 0)=true:=by simp only [List.length_cons,decide_eq_true_eq];omega
  rw [h1,h2];rfl
theorem wY (s:Sm):s.one=(dk s.labels && s.fields):=by
 have hk:s.kind=1∨s.kind=2∨s.kind=3∨s.kind=4∨s.kind=5∨s.kind=6∨s.kind=7∨s.kind=8∨s.kind=9∨s.kind=10∨s.kind<1∨s.kind > 10:=by omega
 unfold Sm.one Sm.fields Sm.flags Sm.EW Sm.hasName Sm.rD
 have p1:isName [] = false:=rfl
 rcases hk with h | h | h | h | h | h | h | h | h | h | h | h
 all_goals
  simp only [h,T6,vi,yF,yG,Sm.zQ,Sm.zP]
  grind
end Go.Abs

/-! Nm1 -/

namespace Go.Abs
set_option maxRecDepth 8000
open Go.Proofs
mutual
def Ex.j5 (out:List aD):Ex→List aD
 | ⟨op,_,name,kids⟩=>Ex.iG (if op==2 && !(dG out name)then out++ [name]else out) kids
def Ex.iG (out:List aD):List Ex→List aD
 | []=>out
 | x::l=>Ex.iG (Ex.j5 out x) l
end
def Ex.names (x:Ex):List aD:=if x.may then x.j5 []else []
mutual
theorem nP (out:List aD) : ∀ x:Ex,(Ex.j5 out x).length≤out.length+x.size
 | ⟨op,n,name,kids⟩=>by
  simp only [Ex.j5,Ex.size]
  have h:=yH (if op==2 && !(dG out name)then out++ [name]else out) kids
  refine Nat.le_trans h ?_
  split <;> simp <;> omega
theorem yH (out:List aD) : ∀ l:List Ex,(Ex.iG out l).length≤out.length+Ex.aS l
 | []=>by simp [Ex.iG,Ex.aS]
 | x::l=>by
  simp only [Ex.iG,Ex.aS]
  have h1:=nP out x
  have h2:=yH (Ex.j5 out x) l
  omega
end
def uK (out:List aD) (x:aD):List aD:=if dG out x then out else out++ [x]
def sn (x:aD):List aD→Bool
 | []=>false
 | s::l=>if s==x then true else sn x l
theorem yI (x:aD) : ∀ l:List aD,sn x l=dG l x
 | []=>rfl
 | s::l=>by
  have h1:=jm (s::l) x
  have h2:=jm l x
  have h3:=yI x l
  simp only [sn]
  by_cases e:s=x
  ·subst e;simp only [beq_self_eq_true,if_true];exact(h1.2 List.mem_cons_self).symm
  ·have e':(s==x)=false:=by simp [e]
   simp only [e',Bool.false_eq_true,if_false,h3]
   cases ha:dG l x <;> cases hb:dG (s::l) x <;> simp_all [Ne.symm e]
abbrev Hf (N:Nat):Prop:=∀ (x:Ex),x.size≤N→∀ out:List aD,out.length+x.size≤1000000000→∀ {s:St} {t:Nat},s.av[t]? = some (some out.length)→
 aI Try.prog fB [.agg (bC x), .slice (.tok t) 1 (out.map encStr)] s (.slice (.tok t) 1 ((x.j5 out).map encStr)) ⟨s.au,s.av.set t (some (x.j5 out).length)⟩
theorem OZ {N:Nat} (ih:Hf N) {op m:Int} {name:aD} {kids:List Ex} (h:Ex.size ⟨op,m,name,kids⟩≤N+1) {out:List aD} (ho:out.length+Ex.size ⟨op,m,name,kids⟩≤1000000000) :
 aI Try.prog fB [.agg (bC ⟨op,m,name,kids⟩), .slice (.tok 0) 1 (out.map encStr)] ⟨[],[some out.length]⟩ (.slice (.tok 0) 1 ((Ex.j5 out ⟨op,m,name,kids⟩).map encStr)) ⟨[],[some (Ex.j5 out ⟨op,m,name,kids⟩).length]⟩:=by
 obtain⟨R,hG⟩ : ∃ R,Ex.j5 out ⟨op,m,name,kids⟩=R:=⟨_,rfl⟩
 rw [hG]
 simp only [Ex.j5]at hG
 simp only [Ex.size]at h ho
 have hlen:kids.length<1000000000:=by have:=Ex.cZ kids;omega
 have hk : ∀ y∈kids,∀ out:List aD,out.length+y.size≤1000000000→∀ {s:St} {t:Nat},s.av[t]? = some (some out.length)→
  aI Try.prog fB [.agg (bC y), .slice (.tok t) 1 (out.map encStr)] s (.slice (.tok t) 1 ((y.j5 out).map encStr)) ⟨s.au,s.av.set t (some (y.j5 out).length)⟩:=fun y hy out ho=>
  ih y (by have:=Ex.b7 hy;omega) out ho
 refine aI.go mS rfl fun B Q hB hQ=> ?_
 have⟨hD,hJ,hP,hY⟩:=bZ
 have hP:(out.length+1)*17≤bF:=by unfold bF;omega
 rcases Bool.eq_false_or_eq_true (op==2)with b1 | b1
 ·rcases Bool.eq_false_or_eq_true (dG out name)with b2 | b2
  ·simp only [b1,b2,Bool.not_true,Bool.and_false,Bool.false_eq_true,if_false]at hG
   repeat' (first
 | simp only [go_sem,hD,hJ,hP,hY,b1,b2]
 | (with_reducible refine CU (gu (l:=out) (by omega) name _ _) ?_)
 | (with_reducible refine aJ hQ ?_;simp only [ay,az,Option.some.injEq,exists_eq_left',go_sem,hD,hJ,hP,hY];repeat' (first | exact Ok.out | with_reducible refine aM ?_ ?_ | (simp;done))))
   refine dD 1 1 (bp.ind (ι:=List Ex×Nat×List aD×Nat) (fun i=>kids.drop i.2.1=i.1∧Ex.iG i.2.2.1 i.1=R∧i.2.2.1.length+Ex.aS i.1≤1000000000∧i.2.2.2=i.2.2.1.length) (fun i=>i.1.length)
    (fun i=> [(1, .slice (.tok 0) 1 (i.2.2.1.map encStr)),(2, .ptr 0 0),(23, .slice .shared 4 (kids.map bC)),(24, .int .i64 (kids.length:Int)),(25, .int .i64 (i.2.1:Int))]) (fun i=>⟨[bC ⟨op,m,name,kids⟩],[some i.2.2.2]⟩) ?_ (kids,0,out,out.length) ⟨rfl,hG,by simp;omega,by simp⟩)
   rintro⟨rest,k,bw,n'⟩ ⟨h1,h2,h3,h4⟩ IH
   dsimp only at h1 h2 h3 h4
   subst h4
   cases rest with
   | nil=>
    have hD:=drop_nil h1
    simp only [Ex.iG]at h2
    subst h2
    repeat' (first
 | simp only [go_sem,hD,hJ,hP,hY]
 | (with_reducible refine aJ hQ ?_;simp only [ay,az,Option.some.injEq,exists_eq_left',go_sem,hD,hJ,hP,hY];repeat' (first | exact Ok.out | with_reducible refine aM ?_ ?_ | (simp;done))))
   | cons y rest=>
    obtain⟨hJ,g2,hD,g4⟩:=drop_cons h1
    have bq:k<4611686018427387904:=by omega
    simp only [Ex.iG]at h2
    simp only [Ex.aS]at h3
    have hy:=fun {s:St} {t:Nat} (ht:s.av[t]? = some (some bw.length))=>hk y (List.mem_of_getElem? hJ) bw (by omega) ht
    have hl:=nP bw y
    repeat' (first
 | simp only [go_sem,hD,hJ,hP,hY]
 | (with_reducible refine CU (hy (by with_unfolding_all rfl)) ?_)
 | (with_reducible refine aJ hQ ?_;simp only [ay,az,Option.some.injEq,exists_eq_left',go_sem,hD,hJ,hP,hY];repeat' (first | exact Ok.out | with_reducible refine aM ?_ ?_ | (simp;done))))
    refine dn 1 1 ?_ ?_ (IH (rest,k+1,_,_) ⟨g2,h2,by dsimp only;omega,rfl⟩ (Nat.lt_succ_self _))
    ·(simp only [go_sem,hD,hJ,hP,hY,aF bq];try exact bo)
    ·(simp only [go_sem,hD,hJ,hP,hY,aF bq];try exact bo)
  ·simp only [b1,b2,Bool.not_false,Bool.and_true,if_true]at hG
   repeat' (first
 | simp only [go_sem,hD,hJ,hP,hY,b1,b2]
 | (with_reducible refine CU (gu (l:=out) (by omega) name _ _) ?_)
 | (with_reducible refine aJ hQ ?_;simp only [ay,az,Option.some.injEq,exists_eq_left',go_sem,hD,hJ,hP,hY];repeat' (first | exact Ok.out | with_reducible refine aM ?_ ?_ | (simp;done))))
   refine dn 1 1 ?_ ?_ (bp.ind (ι:=List Ex×Nat×List aD×Nat) (fun i=>kids.drop i.2.1=i.1∧Ex.iG i.2.2.1 i.1=R∧i.2.2.1.length+Ex.aS i.1≤1000000000∧i.2.2.2=i.2.2.1.length) (fun i=>i.1.length)
    (fun i=> [(1, .slice (.tok 0) 1 (i.2.2.1.map encStr)),(2, .ptr 0 0),(23, .slice .shared 4 (kids.map bC)),(24, .int .i64 (kids.length:Int)),(25, .int .i64 (i.2.1:Int))]) (fun i=>⟨[bC ⟨op,m,name,kids⟩],[some i.2.2.2]⟩) ?_ (kids,0,(out++ [name]),(out.length+1)) ⟨rfl,hG,by simp;omega,by simp⟩)
   ·(simp only [go_sem,hD,hJ,hP,hY,List.map_append,List.map_cons,List.map_nil,List.length_append,List.length_cons,List.length_nil,encStr];try exact bo)
   ·(simp only [go_sem,hD,hJ,hP,hY,List.map_append,List.map_cons,List.map_nil,List.length_append,List.length_cons,List.length_nil,encStr];try exact bo)
   rintro⟨rest,k,bw,n'⟩ ⟨h1,h2,h3,h4⟩ IH
   dsimp only at h1 h2 h3 h4
   subst h4
   cases rest with
   | nil=>
    have hD:=drop_nil h1
    simp only [Ex.iG]at h2
    subst h2
    repeat' (first
 | simp only [go_sem,hD,hJ,hP,hY]
 | (with_reducible refine aJ hQ ?_;simp only [ay,az,Option.some.injEq,exists_eq_left',go_sem,hD,hJ,hP,hY];repeat' (first | exact Ok.out | with_reducible refine aM ?_ ?_ | (simp;done))))
   | cons y rest=>
    obtain⟨hJ,g2,hD,g4⟩:=drop_cons h1
    have bq:k<4611686018427387904:=by omega
    simp only [Ex.iG]at h2
    simp only [Ex.aS]at h3
    have hy:=fun {s:St} {t:Nat} (ht:s.av[t]? = some (some bw.length))=>hk y (List.mem_of_getElem? hJ) bw (by omega) ht
    have hl:=nP bw y
    repeat' (first
 | simp only [go_sem,hD,hJ,hP,hY]
 | (with_reducible refine CU (hy (by with_unfolding_all rfl)) ?_)
 | (with_reducible refine aJ hQ ?_;simp only [ay,az,Option.some.injEq,exists_eq_left',go_sem,hD,hJ,hP,hY];repeat' (first | exact Ok.out | with_reducible refine aM ?_ ?_ | (simp;done))))
    refine dn 1 1 ?_ ?_ (IH (rest,k+1,_,_) ⟨g2,h2,by dsimp only;omega,rfl⟩ (Nat.lt_succ_self _))
    ·(simp only [go_sem,hD,hJ,hP,hY,aF bq];try exact bo)
    ·(simp only [go_sem,hD,hJ,hP,hY,aF bq];try exact bo)
 ·simp only [b1,Bool.false_and,Bool.false_eq_true,if_false]at hG
  repeat' (first
 | simp only [go_sem,hD,hJ,hP,hY,b1]
 | (with_reducible refine aJ hQ ?_;simp only [ay,az,Option.some.injEq,exists_eq_left',go_sem,hD,hJ,hP,hY];repeat' (first | exact Ok.out | with_reducible refine aM ?_ ?_ | (simp;done))))
  refine dD 1 1 (bp.ind (ι:=List Ex×Nat×List aD×Nat) (fun i=>kids.drop i.2.1=i.1∧Ex.iG i.2.2.1 i.1=R∧i.2.2.1.length+Ex.aS i.1≤1000000000∧i.2.2.2=i.2.2.1.length) (fun i=>i.1.length)
   (fun i=> [(1, .slice (.tok 0) 1 (i.2.2.1.map encStr)),(2, .ptr 0 0),(23, .slice .shared 4 (kids.map bC)),(24, .int .i64 (kids.length:Int)),(25, .int .i64 (i.2.1:Int))]) (fun i=>⟨[bC ⟨op,m,name,kids⟩],[some i.2.2.2]⟩) ?_ (kids,0,out,out.length) ⟨rfl,hG,by simp;omega,by simp⟩)
  rintro⟨rest,k,bw,n'⟩ ⟨h1,h2,h3,h4⟩ IH
  dsimp only at h1 h2 h3 h4
  subst h4
  cases rest with
  | nil=>
   have hD:=drop_nil h1
   simp only [Ex.iG]at h2
   subst h2
   repeat' (first
 | simp only [go_sem,hD,hJ,hP,hY]
 | (with_reducible refine aJ hQ ?_;simp only [ay,az,Option.some.injEq,exists_eq_left',go_sem,hD,hJ,hP,hY];repeat' (first | exact Ok.out | with_reducible refine aM ?_ ?_ | (simp;done))))
  | cons y rest=>
   obtain⟨hJ,g2,hD,g4⟩:=drop_cons h1
   have bq:k<4611686018427387904:=by omega
   simp only [Ex.iG]at h2
   simp only [Ex.aS]at h3
   have hy:=fun {s:St} {t:Nat} (ht:s.av[t]? = some (some bw.length))=>hk y (List.mem_of_getElem? hJ) bw (by omega) ht
   have hl:=nP bw y
   repeat' (first
 | simp only [go_sem,hD,hJ,hP,hY]
 | (with_reducible refine CU (hy (by with_unfolding_all rfl)) ?_)
 | (with_reducible refine aJ hQ ?_;simp only [ay,az,Option.some.injEq,exists_eq_left',go_sem,hD,hJ,hP,hY];repeat' (first | exact Ok.out | with_reducible refine aM ?_ ?_ | (simp;done))))
   refine dn 1 1 ?_ ?_ (IH (rest,k+1,_,_) ⟨g2,h2,by dsimp only;omega,rfl⟩ (Nat.lt_succ_self _))
   ·(simp only [go_sem,hD,hJ,hP,hY,aF bq];try exact bo)
   ·(simp only [go_sem,hD,hJ,hP,hY,aF bq];try exact bo)
theorem JS : ∀ N,Hf N:=by
 intro N
 induction N with
 | zero=>rintro⟨op,m,name,kids⟩ h;simp only [Ex.size]at h;omega
 | succ N ih=>
  rintro⟨op,m,name,kids⟩ h out ho s t ht
  exact(OZ ih h ho).NF (pre:= [_]) (post:= []) (by simp only [D.bE,D.ok,ky];rfl) rfl (e9 out) (e9 _) ht
end Go.Abs

/-! Nm2 -/

namespace Go.Abs
set_option maxRecDepth 8000
open Go.Proofs
theorem Hg {op m:Int} {name:aD} {kids:List Ex} (h:Ex.form ⟨op,m,name,kids⟩=true) (h2:(op==2)=true):kids = []:=by
 have e:op=2:=by simpa using h2
 subst e
 simp only [Ex.form]at h
 split at h
 ·cases h
 ·rename_i hh
  simp only [Bool.or_eq_true,not_or,bne_iff_ne,ne_eq,Decidable.not_not]at hh
  have:=hh.1.1.1.1
  have e:lL 2=0:=rfl
  rw [e]at this
  exact List.length_eq_zero_iff.1 (by omega)
theorem JT {op m:Int} {name:aD} {kids:List Ex} (hf:(op==2)=true→kids = []) (ho:Ex.size ⟨op,m,name,kids⟩≤1000000000) (s:St) :
 aI Try.prog fB [.agg (bC ⟨op,m,name,kids⟩), .slice .full 0 []] s (.slice .shared 1 ((Ex.j5 [] ⟨op,m,name,kids⟩).map encStr)) s:=by
 refine aI.pure ?_ (by simp only [D.bE,D.ok,ky];rfl) (by simp only [D.ok,Tag.ok,e9];rfl) s
 obtain⟨R,hG⟩ : ∃ R,Ex.j5 [] ⟨op,m,name,kids⟩=R:=⟨_,rfl⟩
 rw [hG]
 simp only [Ex.j5]at hG
 simp only [Ex.size]at ho
 have hlen:kids.length<1000000000:=by have:=Ex.cZ kids;omega
 have hk : ∀ y∈kids,∀ out:List aD,out.length+y.size≤1000000000→∀ {s:St} {t:Nat},s.av[t]? = some (some out.length)→
  aI Try.prog fB [.agg (bC y), .slice (.tok t) 1 (out.map encStr)] s (.slice (.tok t) 1 ((y.j5 out).map encStr)) ⟨s.au,s.av.set t (some (y.j5 out).length)⟩:=fun y hy out ho=>
  JS y.size y (Nat.le_refl _) out ho
 unfold S0
 rcases Bool.eq_false_or_eq_true (op==2)with b1 | b1
 ·have O0:=hf b1
  subst O0
  have e:dG [] name=false:=rfl
  simp only [b1,e,Bool.not_false,Bool.and_true,if_true,Ex.iG,List.nil_append]at hG
  subst hG
  refine aI.go mS rfl fun B Q hB hQ=> ?_
  have⟨hD,hJ,hP,hY⟩:=bZ
  have hP:17≤bF:=by unfold bF;omega
  repeat' (first
 | simp only [go_sem,hD,hJ,hP,hY,b1,List.map_nil,List.map_cons,List.length_nil,encStr,Int.natCast_zero,Int.lt_irrefl,decide_false]
 | (with_reducible refine CU (Bb name _ _ _) ?_)
 | (with_reducible refine bp.zJ ?_)
 | (with_reducible refine aJ hQ ?_;simp only [ay,az,Option.some.injEq,exists_eq_left',go_sem,hD,hJ,hP,hY];repeat' (first | exact Ok.out | with_reducible refine aM ?_ ?_ | (simp;done))))
 ·simp only [b1,Bool.false_and,Bool.false_eq_true,if_false]at hG
  refine aI.go mS rfl fun B Q hB hQ=> ?_
  have⟨hD,hJ,hP,hY⟩:=bZ
  repeat' (first
 | simp only [go_sem,hD,hJ,hP,hY,b1]
 | (with_reducible refine aJ hQ ?_;simp only [ay,az,Option.some.injEq,exists_eq_left',go_sem,hD,hJ,hP,hY];repeat' (first | exact Ok.out | with_reducible refine aM ?_ ?_ | (simp;done))))
  refine bp.pB 1 1 rfl ?_
  simp only [go_sem,hD,hJ,hP,hY]
  refine dD 1 1 (bp.ind (ι:=List Ex×Nat×List aD×Nat) (fun i=>kids.drop i.2.1=i.1∧Ex.iG i.2.2.1 i.1=R∧i.2.2.1.length+Ex.aS i.1≤1000000000∧i.2.2.2=i.2.2.1.length) (fun i=>i.1.length)
   (fun i=> [(1, .slice (.tok 0) 1 (i.2.2.1.map encStr)),(2, .ptr 0 0),(23, .slice .shared 4 (kids.map bC)),(24, .int .i64 (kids.length:Int)),(25, .int .i64 (i.2.1:Int))]) (fun i=>⟨[bC ⟨op,m,name,kids⟩],[some i.2.2.2]⟩) ?_ (kids,0,[],0) ⟨rfl,hG,by simp;omega,by simp⟩)
  rintro⟨rest,k,bw,n'⟩ ⟨h1,h2,h3,h4⟩ IH
  dsimp only at h1 h2 h3 h4
  subst h4
  cases rest with
  | nil=>
   have hD:=drop_nil h1
   simp only [Ex.iG]at h2
   subst h2
   repeat' (first
 | simp only [go_sem,hD,hJ,hP,hY]
 | (with_reducible refine aJ hQ ?_;simp only [ay,az,Option.some.injEq,exists_eq_left',go_sem,hD,hJ,hP,hY];repeat' (first | exact Ok.out | with_reducible refine aM ?_ ?_ | (simp;done))))
  | cons y rest=>
   obtain⟨hJ,g2,hD,g4⟩:=drop_cons h1
   have bq:k<4611686018427387904:=by omega
   simp only [Ex.iG]at h2
   simp only [Ex.aS]at h3
   have hy:=fun {s:St} {t:Nat} (ht:s.av[t]? = some (some bw.length))=>hk y (List.mem_of_getElem? hJ) bw (by omega) ht
   have hl:=nP bw y
   repeat' (first
 | simp only [go_sem,hD,hJ,hP,hY]
 | (with_reducible refine CU (hy (by with_unfolding_all rfl)) ?_)
 | (with_reducible refine aJ hQ ?_;simp only [ay,az,Option.some.injEq,exists_eq_left',go_sem,hD,hJ,hP,hY];repeat' (first | exact Ok.out | with_reducible refine aM ?_ ?_ | (simp;done))))
   refine dn 1 1 ?_ ?_ (IH (rest,k+1,_,_) ⟨g2,h2,by dsimp only;omega,rfl⟩ (Nat.lt_succ_self _))
   ·(simp only [go_sem,hD,hJ,hP,hY,aF bq];try exact bo)
   ·(simp only [go_sem,hD,hJ,hP,hY,aF bq];try exact bo)
theorem jJ {x:Ex} (hx:x.size≤1000000000) (ht:x.texts) (s:St):aI Try.prog mI [.agg (bC x)] s (.slice .shared 1 (x.names.map encStr)) s:=by
 refine aI.pure ?_ (by simp only [D.bE,D.ok,ky];rfl) (by simp only [D.ok,Tag.ok,e9];rfl) s
 have hm:=fun s=>wR (x:=x) (by omega) ht s
 simp only [He]at hm
 unfold Ex.names
 unfold S0
 cases hb:x.may
 ·simp only [hb]at hm
  simp only [Bool.false_eq_true,if_false,List.map_nil]
  refine aI.go rA rfl fun B Q hB hQ=> ?_
  have⟨hD,hJ,hP,hY⟩:=bZ
  repeat' (first
 | simp only [go_sem,hD,hJ,hP,hY]
 | (with_reducible refine CU (hm _) ?_)
 | (with_reducible refine aJ hQ ?_;simp only [ay,az,Option.some.injEq,exists_eq_left',go_sem,hD,hJ,hP,hY];repeat' (first | exact Ok.out | with_reducible refine aM ?_ ?_ | (simp;done))))
 ·simp only [hb]at hm
  simp only [if_true]
  have hg : ∀ s,aI Try.prog fB [.agg (bC x), .slice .full 0 []] s (.slice .shared 1 ((x.j5 []).map encStr)) s:=by
   intro s
   obtain⟨op,m,name,kids⟩:=x
   exact JT (fun h2=>Hg (by simp only [Ex.may,Bool.and_eq_true]at hb;exact hb.2) h2) hx s
  refine aI.go rA rfl fun B Q hB hQ=> ?_
  have⟨hD,hJ,hP,hY⟩:=bZ
  repeat' (first
 | simp only [go_sem,hD,hJ,hP,hY]
 | (with_reducible refine CU (hm _) ?_)
 | (with_reducible refine CU (hg _) ?_)
 | (with_reducible refine aJ hQ ?_;simp only [ay,az,Option.some.injEq,exists_eq_left',go_sem,hD,hJ,hP,hY];repeat' (first | exact Ok.out | with_reducible refine aM ?_ ?_ | (simp;done))))
end Go.Abs

/-! Nm3 -/

namespace Go.Abs
set_option maxRecDepth 8000
open Go.Proofs
def Ar.said (out:List aD):List Ar→List aD
 | []=>out
 | a::l=>Ar.said ((if a.ref then out++ [a.name]else out)++a.x.names) l
def Sm.o8 (v:Sm):List aD:=if v.kind != 10 && v.name != []then [v.name]else []
def Sm.said (v:Sm):List aD:=Ar.said (v.o8++v.x.names) v.args
theorem hZ (x:Ex):x.names.length≤x.size:=by
 unfold Ex.names
 split
 ·simpa using nP [] x
 ·exact Nat.zero_le _
def Ar.pL:List Ar→Prop
 | []=>True
 | a::l=>a.x.texts∧Ar.pL l
def Sm.ko (v:Sm):Prop:=v.x.texts∧(∀ a∈v.args,a.x.texts)∧v.x.size+Ar.aS v.args<1000000
theorem gI {l nx:List aD} {n:Nat} (hn:n=l.length) (h:l.length+nx.length≤1000000000) {g:Tag} (o:List (List D)) :
 kQ 1 16 (.slice (.tok 0) 1 (l.map encStr)) (.slice g 1 (nx.map encStr)) ⟨o,[some n]⟩=some (.slice (.tok 0) 1 ((l++nx).map encStr),⟨o,[some (l++nx).length]⟩):=by
 subst hn
 have:=AU (size:=1) (bytes:=16) (t:=0) (rows:=l.map encStr) (new:=nx.map encStr) (g:=g) (s:=⟨o,[some l.length]⟩) (by simp only [List.length_map];unfold bF;omega) (by simp)
 rw [this]
 simp
theorem ub {v:Sm} (hv:v.ko) (s:St):aI Try.prog mD [.agg (bd v)] s (.slice .shared 1 (v.said.map encStr)) s:=by
 refine aI.pure ?_ (by simp only [D.bE,D.ok,lX];rfl) (by simp only [D.ok,Tag.ok,e9];rfl) s
 obtain⟨ht1,Hh,dJ⟩:=hv
 obtain⟨R,hG⟩ : ∃ R,v.said=R:=⟨_,rfl⟩
 rw [hG]
 simp only [Sm.said]at hG
 have hlen:v.args.length<1000000000:=by have:=Ar.cZ v.args;omega
 have hx:=fun s=>jJ (x:=v.x) (by omega) ht1 s
 have CK:=hZ v.x
 unfold S0
 refine aI.go xL rfl fun B Q hB hQ=> ?_
 have⟨hD,hJ,hP,hY⟩:=bZ
 have hP:17≤bF:=by unfold bF;omega
 by_cases hb:(v.kind != 10 && v.name != [])=true
 ·simp only [Sm.o8,hb,if_true]at hG
  rw [Bool.and_eq_true]at hb
  obtain⟨b1,b2⟩:=hb
  have eB:=gI (l:= [v.name]) (nx:=v.x.names) (n:=1) rfl (by simp;omega) (g:= .shared)
  simp only [List.map_append,List.map_cons,List.map_nil,encStr]at eB
  have b3:(v.name == [])=false:=by simpa using b2
  repeat' (first
 | simp only [go_sem,hD,hJ,hP,hY,b1,b2,b3,eB]
 | (with_reducible refine CU (hx _) ?_)
 | (with_reducible refine aJ hQ ?_;simp only [ay,az,Option.some.injEq,exists_eq_left',go_sem,hD,hJ,hP,hY];repeat' (first | exact Ok.out | with_reducible refine aM ?_ ?_ | (simp;done))))
  refine dn 1 1 ?_ ?_ (bp.ind (ι:=List Ar×Nat×List aD×Nat) (fun i=>v.args.drop i.2.1=i.1∧Ar.said i.2.2.1 i.1=R∧i.2.2.1.length+Ar.aS i.1≤2000000∧i.2.2.2=i.2.2.1.length) (fun i=>i.1.length)
   (fun i=> [(3, .slice (.tok 0) 1 (i.2.2.1.map encStr)),(1, .ptr 0 0),(25, .slice .shared 6 (v.args.map dh)),(26, .int .i64 (v.args.length:Int)),(27, .int .i64 (i.2.1:Int))]) (fun i=>⟨[bd v],[some i.2.2.2]⟩) ?_ (v.args,0,([v.name]++v.x.names),(v.x.names.length+1)) ⟨rfl,hG,by simp at CK ⊢;omega,by simp⟩)
  ·(simp only [go_sem,hD,hJ,hP,hY,List.map_append,List.map_cons,List.map_nil,encStr];try exact bo)
  ·(simp only [go_sem,hD,hJ,hP,hY,List.map_append,List.map_cons,List.map_nil,encStr];try exact bo)
  rintro⟨rest,k,out,n'⟩ ⟨h1,h2,h3,h4⟩ IH
  dsimp only at h1 h2 h3 h4
  subst h4
  cases rest with
  | nil=>
   have hD:=drop_nil h1
   simp only [Ar.said]at h2
   subst h2
   repeat' (first
 | simp only [go_sem,hD,hJ,hP,hY]
 | (with_reducible refine aJ hQ ?_;simp only [ay,az,Option.some.injEq,exists_eq_left',go_sem,hD,hJ,hP,hY];repeat' (first | exact Ok.out | with_reducible refine aM ?_ ?_ | (simp;done))))
  | cons a rest=>
   obtain⟨hJ,g2,hD,g4⟩:=drop_cons h1
   have bq:k<4611686018427387904:=by omega
   simp only [Ar.said]at h2
   simp only [Ar.aS]at h3
   have qw:=fun s=>jJ (x:=a.x) (by have:=Ar.b7 (List.mem_of_getElem? hJ);omega) (Hh a (List.mem_of_getElem? hJ)) s
   have hl:=hZ a.x
   have hP:(out.length+1)*17≤bF:=by unfold bF;omega
   rcases Bool.eq_false_or_eq_true a.ref with b1 | b1
   ·simp only [b1,if_true]at h2
    have eB:=gI (l:=out++ [a.name]) (nx:=a.x.names) (n:=out.length+1) (by simp) (by simp;omega) (g:= .shared)
    simp only [List.map_append,List.map_cons,List.map_nil,encStr]at eB
    repeat' (first
 | simp only [go_sem,hD,hJ,hP,hY,b1,eB]
 | (with_reducible refine CU (qw _) ?_)
 | (with_reducible refine aJ hQ ?_;simp only [ay,az,Option.some.injEq,exists_eq_left',go_sem,hD,hJ,hP,hY];repeat' (first | exact Ok.out | with_reducible refine aM ?_ ?_ | (simp;done))))
    refine dn 1 1 ?_ ?_ (IH (rest,k+1,out++ [a.name]++a.x.names,_) ⟨g2,h2,by simp;omega,by simp <;> omega⟩ (Nat.lt_succ_self _))
    ·(simp only [go_sem,hD,hJ,hP,hY,aF bq,List.map_append,List.map_cons,List.map_nil,encStr];try exact bo)
    ·(simp only [go_sem,hD,hJ,hP,hY,aF bq,List.map_append,List.map_cons,List.map_nil,encStr];try exact bo)
   ·simp only [b1,Bool.false_eq_true,if_false]at h2
    have eB:=gI (l:=out) (nx:=a.x.names) rfl (by omega) (g:= .shared)
    repeat' (first
 | simp only [go_sem,hD,hJ,hP,hY,b1,eB]
 | (with_reducible refine CU (qw _) ?_)
 | (with_reducible refine aJ hQ ?_;simp only [ay,az,Option.some.injEq,exists_eq_left',go_sem,hD,hJ,hP,hY];repeat' (first | exact Ok.out | with_reducible refine aM ?_ ?_ | (simp;done))))
    refine dn 1 1 ?_ ?_ (IH (rest,k+1,out++a.x.names,_) ⟨g2,h2,by simp;omega,by simp <;> omega⟩ (Nat.lt_succ_self _))
    ·(simp only [go_sem,hD,hJ,hP,hY,aF bq];try exact bo)
    ·(simp only [go_sem,hD,hJ,hP,hY,aF bq];try exact bo)
 ·simp only [Sm.o8,hb,Bool.false_eq_true,if_false,List.nil_append]at hG
  have qf:(v.kind != 10 && v.name != [])=false:=by simpa using hb
  obtain⟨nx,R1⟩ : ∃ nx,nx=v.x.names:=⟨_,rfl⟩
  rw [← R1]at hG CK
  simp only [← R1]at hx
  by_cases Ag:nx = []
  ·subst Ag
   simp only [List.map_nil]at hx
   have eB : ∀ o:List (List D),kQ 1 16 (.slice .full 0 []) (.slice .shared 1 []) ⟨o,[]⟩=some (.slice .full 0 [],⟨o,[]⟩):=fun o=>by simp [kQ,bF]
   have HB:(v.kind != 10)=false∨(v.kind != 10)=true∧(v.name != [])=false:=by
    cases h1:(v.kind != 10)
    ·exact .inl rfl
    ·rw [h1]at qf;exact .inr ⟨rfl,by simpa using qf⟩
   rcases HB with b1 | ⟨b1,b2⟩
   ·rcases Bool.eq_false_or_eq_true (v.name != [])with b2 | b2
    all_goals
     have b3:(v.name == []) = !(v.name != []):=by simp only [bne,Bool.not_not]
     rw [b2]at b3
     repeat' (first
 | simp only [go_sem,hD,hJ,hP,hY,b1,b2,b3,Bool.not_true,Bool.not_false,eB]
 | (with_reducible refine CU (hx _) ?_)
 | (with_reducible refine aJ hQ ?_;simp only [ay,az,Option.some.injEq,exists_eq_left',go_sem,hD,hJ,hP,hY];repeat' (first | exact Ok.out | with_reducible refine aM ?_ ?_ | (simp;done))))
    all_goals
     refine bp.pB 3 1 rfl ?_
     simp only [go_sem,hD,hJ,hP,hY]
     refine dD 1 1 (bp.ind (ι:=List Ar×Nat×List aD×Nat) (fun i=>v.args.drop i.2.1=i.1∧Ar.said i.2.2.1 i.1=R∧i.2.2.1.length+Ar.aS i.1≤2000000∧i.2.2.2=i.2.2.1.length) (fun i=>i.1.length)
      (fun i=> [(3, .slice (.tok 0) 1 (i.2.2.1.map encStr)),(1, .ptr 0 0),(25, .slice .shared 6 (v.args.map dh)),(26, .int .i64 (v.args.length:Int)),(27, .int .i64 (i.2.1:Int))]) (fun i=>⟨[bd v],[some i.2.2.2]⟩) ?_ (v.args,0,[],0) ⟨rfl,hG,by simp at CK ⊢;omega,by simp⟩)
     rintro⟨rest,k,out,n'⟩ ⟨h1,h2,h3,h4⟩ IH
     dsimp only at h1 h2 h3 h4
     subst h4
     cases rest with
     | nil=>
      have hD:=drop_nil h1
      simp only [Ar.said]at h2
      subst h2
      repeat' (first
 | simp only [go_sem,hD,hJ,hP,hY]
 | (with_reducible refine aJ hQ ?_;simp only [ay,az,Option.some.injEq,exists_eq_left',go_sem,hD,hJ,hP,hY];repeat' (first | exact Ok.out | with_reducible refine aM ?_ ?_ | (simp;done))))
     | cons a rest=>
      obtain⟨hJ,g2,hD,g4⟩:=drop_cons h1
      have bq:k<4611686018427387904:=by omega
      simp only [Ar.said]at h2
      simp only [Ar.aS]at h3
      have qw:=fun s=>jJ (x:=a.x) (by have:=Ar.b7 (List.mem_of_getElem? hJ);omega) (Hh a (List.mem_of_getElem? hJ)) s
      have hl:=hZ a.x
      have hP:(out.length+1)*17≤bF:=by unfold bF;omega
      rcases Bool.eq_false_or_eq_true a.ref with b1 | b1
      ·simp only [b1,if_true]at h2
       have eB:=gI (l:=out++ [a.name]) (nx:=a.x.names) (n:=out.length+1) (by simp) (by simp;omega) (g:= .shared)
       simp only [List.map_append,List.map_cons,List.map_nil,encStr]at eB
       repeat' (first
 | simp only [go_sem,hD,hJ,hP,hY,b1,eB]
 | (with_reducible refine CU (qw _) ?_)
 | (with_reducible refine aJ hQ ?_;simp only [ay,az,Option.some.injEq,exists_eq_left',go_sem,hD,hJ,hP,hY];repeat' (first | exact Ok.out | with_reducible refine aM ?_ ?_ | (simp;done))))
       refine dn 1 1 ?_ ?_ (IH (rest,k+1,out++ [a.name]++a.x.names,_) ⟨g2,h2,by simp;omega,by simp <;> omega⟩ (Nat.lt_succ_self _))
       ·(simp only [go_sem,hD,hJ,hP,hY,aF bq,List.map_append,List.map_cons,List.map_nil,encStr];try exact bo)
       ·(simp only [go_sem,hD,hJ,hP,hY,aF bq,List.map_append,List.map_cons,List.map_nil,encStr];try exact bo)
      ·simp only [b1,Bool.false_eq_true,if_false]at h2
       have eB:=gI (l:=out) (nx:=a.x.names) rfl (by omega) (g:= .shared)
       repeat' (first
 | simp only [go_sem,hD,hJ,hP,hY,b1,eB]
 | (with_reducible refine CU (qw _) ?_)
 | (with_reducible refine aJ hQ ?_;simp only [ay,az,Option.some.injEq,exists_eq_left',go_sem,hD,hJ,hP,hY];repeat' (first | exact Ok.out | with_reducible refine aM ?_ ?_ | (simp;done))))
       refine dn 1 1 ?_ ?_ (IH (rest,k+1,out++a.x.names,_) ⟨g2,h2,by simp;omega,by simp <;> omega⟩ (Nat.lt_succ_self _))
       ·(simp only [go_sem,hD,hJ,hP,hY,aF bq];try exact bo)
       ·(simp only [go_sem,hD,hJ,hP,hY,aF bq];try exact bo)
   ·have b3:(v.name == [])=true:=by simpa using b2
    repeat' (first
 | simp only [go_sem,hD,hJ,hP,hY,b1,b2,b3,eB]
 | (with_reducible refine CU (hx _) ?_)
 | (with_reducible refine aJ hQ ?_;simp only [ay,az,Option.some.injEq,exists_eq_left',go_sem,hD,hJ,hP,hY];repeat' (first | exact Ok.out | with_reducible refine aM ?_ ?_ | (simp;done))))
    refine bp.pB 3 1 rfl ?_
    simp only [go_sem,hD,hJ,hP,hY]
    refine dD 1 1 (bp.ind (ι:=List Ar×Nat×List aD×Nat) (fun i=>v.args.drop i.2.1=i.1∧Ar.said i.2.2.1 i.1=R∧i.2.2.1.length+Ar.aS i.1≤2000000∧i.2.2.2=i.2.2.1.length) (fun i=>i.1.length)
     (fun i=> [(3, .slice (.tok 0) 1 (i.2.2.1.map encStr)),(1, .ptr 0 0),(25, .slice .shared 6 (v.args.map dh)),(26, .int .i64 (v.args.length:Int)),(27, .int .i64 (i.2.1:Int))]) (fun i=>⟨[bd v],[some i.2.2.2]⟩) ?_ (v.args,0,[],0) ⟨rfl,hG,by simp at CK ⊢;omega,by simp⟩)
    rintro⟨rest,k,out,n'⟩ ⟨h1,h2,h3,h4⟩ IH
    dsimp only at h1 h2 h3 h4
    subst h4
    cases rest with
    | nil=>
     have hD:=drop_nil h1
     simp only [Ar.said]at h2
     subst h2
     repeat' (first
 | simp only [go_sem,hD,hJ,hP,hY]
 | (with_reducible refine aJ hQ ?_;simp only [ay,az,Option.some.injEq,exists_eq_left',go_sem,hD,hJ,hP,hY];repeat' (first | exact Ok.out | with_reducible refine aM ?_ ?_ | (simp;done))))
    | cons a rest=>
     obtain⟨hJ,g2,hD,g4⟩:=drop_cons h1
     have bq:k<4611686018427387904:=by omega
     simp only [Ar.said]at h2
     simp only [Ar.aS]at h3
     have qw:=fun s=>jJ (x:=a.x) (by have:=Ar.b7 (List.mem_of_getElem? hJ);omega) (Hh a (List.mem_of_getElem? hJ)) s
     have hl:=hZ a.x
     have hP:(out.length+1)*17≤bF:=by unfold bF;omega
     rcases Bool.eq_false_or_eq_true a.ref with b1 | b1
     ·simp only [b1,if_true]at h2
      have eB:=gI (l:=out++ [a.name]) (nx:=a.x.names) (n:=out.length+1) (by simp) (by simp;omega) (g:= .shared)
      simp only [List.map_append,List.map_cons,List.map_nil,encStr]at eB
      repeat' (first
 | simp only [go_sem,hD,hJ,hP,hY,b1,eB]
 | (with_reducible refine CU (qw _) ?_)
 | (with_reducible refine aJ hQ ?_;simp only [ay,az,Option.some.injEq,exists_eq_left',go_sem,hD,hJ,hP,hY];repeat' (first | exact Ok.out | with_reducible refine aM ?_ ?_ | (simp;done))))
      refine dn 1 1 ?_ ?_ (IH (rest,k+1,out++ [a.name]++a.x.names,_) ⟨g2,h2,by simp;omega,by simp <;> omega⟩ (Nat.lt_succ_self _))
      ·(simp only [go_sem,hD,hJ,hP,hY,aF bq,List.map_append,List.map_cons,List.map_nil,encStr];try exact bo)
      ·(simp only [go_sem,hD,hJ,hP,hY,aF bq,List.map_append,List.map_cons,List.map_nil,encStr];try exact bo)
     ·simp only [b1,Bool.false_eq_true,if_false]at h2
      have eB:=gI (l:=out) (nx:=a.x.names) rfl (by omega) (g:= .shared)
      repeat' (first
 | simp only [go_sem,hD,hJ,hP,hY,b1,eB]
 | (with_reducible refine CU (qw _) ?_)
 | (with_reducible refine aJ hQ ?_;simp only [ay,az,Option.some.injEq,exists_eq_left',go_sem,hD,hJ,hP,hY];repeat' (first | exact Ok.out | with_reducible refine aM ?_ ?_ | (simp;done))))
      refine dn 1 1 ?_ ?_ (IH (rest,k+1,out++a.x.names,_) ⟨g2,h2,by simp;omega,by simp <;> omega⟩ (Nat.lt_succ_self _))
      ·(simp only [go_sem,hD,hJ,hP,hY,aF bq];try exact bo)
      ·(simp only [go_sem,hD,hJ,hP,hY,aF bq];try exact bo)
  ·have eB : ∀ o:List (List D),kQ 1 16 (.slice .full 0 []) (.slice .shared 1 (nx.map encStr)) ⟨o,[]⟩=some (.slice (.tok 0) 1 (nx.map encStr),⟨o,[some nx.length]⟩):=fun o=>by
    have:nx.length*17≤bF:=by unfold bF;omega
    cases nx with
    | nil=>exact absurd rfl Ag
    | cons a r=>simp only [List.length_cons]at this;simp [kQ,this]
   have HB:(v.kind != 10)=false∨(v.kind != 10)=true∧(v.name != [])=false:=by
    cases h1:(v.kind != 10)
    ·exact .inl rfl
    ·rw [h1]at qf;exact .inr ⟨rfl,by simpa using qf⟩
   rcases HB with b1 | ⟨b1,b2⟩
   ·rcases Bool.eq_false_or_eq_true (v.name != [])with b2 | b2
    all_goals
     have b3:(v.name == []) = !(v.name != []):=by simp only [bne,Bool.not_not]
     rw [b2]at b3
     repeat' (first
 | simp only [go_sem,hD,hJ,hP,hY,b1,b2,b3,Bool.not_true,Bool.not_false,eB]
 | (with_reducible refine CU (hx _) ?_)
 | (with_reducible refine aJ hQ ?_;simp only [ay,az,Option.some.injEq,exists_eq_left',go_sem,hD,hJ,hP,hY];repeat' (first | exact Ok.out | with_reducible refine aM ?_ ?_ | (simp;done))))
    all_goals
     refine dD 1 1 (bp.ind (ι:=List Ar×Nat×List aD×Nat) (fun i=>v.args.drop i.2.1=i.1∧Ar.said i.2.2.1 i.1=R∧i.2.2.1.length+Ar.aS i.1≤2000000∧i.2.2.2=i.2.2.1.length) (fun i=>i.1.length)
      (fun i=> [(3, .slice (.tok 0) 1 (i.2.2.1.map encStr)),(1, .ptr 0 0),(25, .slice .shared 6 (v.args.map dh)),(26, .int .i64 (v.args.length:Int)),(27, .int .i64 (i.2.1:Int))]) (fun i=>⟨[bd v],[some i.2.2.2]⟩) ?_ (v.args,0,nx,_) ⟨rfl,hG,by simp at CK ⊢;omega,by simp⟩)
     rintro⟨rest,k,out,n'⟩ ⟨h1,h2,h3,h4⟩ IH
     dsimp only at h1 h2 h3 h4
     subst h4
     cases rest with
     | nil=>
      have hD:=drop_nil h1
      simp only [Ar.said]at h2
      subst h2
      repeat' (first
 | simp only [go_sem,hD,hJ,hP,hY]
 | (with_reducible refine aJ hQ ?_;simp only [ay,az,Option.some.injEq,exists_eq_left',go_sem,hD,hJ,hP,hY];repeat' (first | exact Ok.out | with_reducible refine aM ?_ ?_ | (simp;done))))
     | cons a rest=>
      obtain⟨hJ,g2,hD,g4⟩:=drop_cons h1
      have bq:k<4611686018427387904:=by omega
      simp only [Ar.said]at h2
      simp only [Ar.aS]at h3
      have qw:=fun s=>jJ (x:=a.x) (by have:=Ar.b7 (List.mem_of_getElem? hJ);omega) (Hh a (List.mem_of_getElem? hJ)) s
      have hl:=hZ a.x
      have hP:(out.length+1)*17≤bF:=by unfold bF;omega
      rcases Bool.eq_false_or_eq_true a.ref with b1 | b1
      ·simp only [b1,if_true]at h2
       have eB:=gI (l:=out++ [a.name]) (nx:=a.x.names) (n:=out.length+1) (by simp) (by simp;omega) (g:= .shared)
       simp only [List.map_append,List.map_cons,List.map_nil,encStr]at eB
       repeat' (first
 | simp only [go_sem,hD,hJ,hP,hY,b1,eB]
 | (with_reducible refine CU (qw _) ?_)
 | (with_reducible refine aJ hQ ?_;simp only [ay,az,Option.some.injEq,exists_eq_left',go_sem,hD,hJ,hP,hY];repeat' (first | exact Ok.out | with_reducible refine aM ?_ ?_ | (simp;done))))
       refine dn 1 1 ?_ ?_ (IH (rest,k+1,out++ [a.name]++a.x.names,_) ⟨g2,h2,by simp;omega,by simp <;> omega⟩ (Nat.lt_succ_self _))
       ·(simp only [go_sem,hD,hJ,hP,hY,aF bq,List.map_append,List.map_cons,List.map_nil,encStr];try exact bo)
       ·(simp only [go_sem,hD,hJ,hP,hY,aF bq,List.map_append,List.map_cons,List.map_nil,encStr];try exact bo)
      ·simp only [b1,Bool.false_eq_true,if_false]at h2
       have eB:=gI (l:=out) (nx:=a.x.names) rfl (by omega) (g:= .shared)
       repeat' (first
 | simp only [go_sem,hD,hJ,hP,hY,b1,eB]
 | (with_reducible refine CU (qw _) ?_)
 | (with_reducible refine aJ hQ ?_;simp only [ay,az,Option.some.injEq,exists_eq_left',go_sem,hD,hJ,hP,hY];repeat' (first | exact Ok.out | with_reducible refine aM ?_ ?_ | (simp;done))))
       refine dn 1 1 ?_ ?_ (IH (rest,k+1,out++a.x.names,_) ⟨g2,h2,by simp;omega,by simp <;> omega⟩ (Nat.lt_succ_self _))
       ·(simp only [go_sem,hD,hJ,hP,hY,aF bq];try exact bo)
       ·(simp only [go_sem,hD,hJ,hP,hY,aF bq];try exact bo)
   ·have b3:(v.name == [])=true:=by simpa using b2
    repeat' (first
 | simp only [go_sem,hD,hJ,hP,hY,b1,b2,b3,eB]
 | (with_reducible refine CU (hx _) ?_)
 | (with_reducible refine aJ hQ ?_;simp only [ay,az,Option.some.injEq,exists_eq_left',go_sem,hD,hJ,hP,hY];repeat' (first | exact Ok.out | with_reducible refine aM ?_ ?_ | (simp;done))))
    refine dD 1 1 (bp.ind (ι:=List Ar×Nat×List aD×Nat) (fun i=>v.args.drop i.2.1=i.1∧Ar.said i.2.2.1 i.1=R∧i.2.2.1.length+Ar.aS i.1≤2000000∧i.2.2.2=i.2.2.1.length) (fun i=>i.1.length)
     (fun i=> [(3, .slice (.tok 0) 1 (i.2.2.1.map encStr)),(1, .ptr 0 0),(25, .slice .shared 6 (v.args.map dh)),(26, .int .i64 (v.args.length:Int)),(27, .int .i64 (i.2.1:Int))]) (fun i=>⟨[bd v],[some i.2.2.2]⟩) ?_ (v.args,0,nx,_) ⟨rfl,hG,by simp at CK ⊢;omega,by simp⟩)
    rintro⟨rest,k,out,n'⟩ ⟨h1,h2,h3,h4⟩ IH
    dsimp only at h1 h2 h3 h4
    subst h4
    cases rest with
    | nil=>
     have hD:=drop_nil h1
     simp only [Ar.said]at h2
     subst h2
     repeat' (first
 | simp only [go_sem,hD,hJ,hP,hY]
 | (with_reducible refine aJ hQ ?_;simp only [ay,az,Option.some.injEq,exists_eq_left',go_sem,hD,hJ,hP,hY];repeat' (first | exact Ok.out | with_reducible refine aM ?_ ?_ | (simp;done))))
    | cons a rest=>
     obtain⟨hJ,g2,hD,g4⟩:=drop_cons h1
     have bq:k<4611686018427387904:=by omega
     simp only [Ar.said]at h2
     simp only [Ar.aS]at h3
     have qw:=fun s=>jJ (x:=a.x) (by have:=Ar.b7 (List.mem_of_getElem? hJ);omega) (Hh a (List.mem_of_getElem? hJ)) s
     have hl:=hZ a.x
     have hP:(out.length+1)*17≤bF:=by unfold bF;omega
     rcases Bool.eq_false_or_eq_true a.ref with b1 | b1
     ·simp only [b1,if_true]at h2
      have eB:=gI (l:=out++ [a.name]) (nx:=a.x.names) (n:=out.length+1) (by simp) (by simp;omega) (g:= .shared)
      simp only [List.map_append,List.map_cons,List.map_nil,encStr]at eB
      repeat' (first
 | simp only [go_sem,hD,hJ,hP,hY,b1,eB]
 | (with_reducible refine CU (qw _) ?_)
 | (with_reducible refine aJ hQ ?_;simp only [ay,az,Option.some.injEq,exists_eq_left',go_sem,hD,hJ,hP,hY];repeat' (first | exact Ok.out | with_reducible refine aM ?_ ?_ | (simp;done))))
      refine dn 1 1 ?_ ?_ (IH (rest,k+1,out++ [a.name]++a.x.names,_) ⟨g2,h2,by simp;omega,by simp <;> omega⟩ (Nat.lt_succ_self _))
      ·(simp only [go_sem,hD,hJ,hP,hY,aF bq,List.map_append,List.map_cons,List.map_nil,encStr];try exact bo)
      ·(simp only [go_sem,hD,hJ,hP,hY,aF bq,List.map_append,List.map_cons,List.map_nil,encStr];try exact bo)
     ·simp only [b1,Bool.false_eq_true,if_false]at h2
      have eB:=gI (l:=out) (nx:=a.x.names) rfl (by omega) (g:= .shared)
      repeat' (first
 | simp only [go_sem,hD,hJ,hP,hY,b1,eB]
 | (with_reducible refine CU (qw _) ?_)
 | (with_reducible refine aJ hQ ?_;simp only [ay,az,Option.some.injEq,exists_eq_left',go_sem,hD,hJ,hP,hY];repeat' (first | exact Ok.out | with_reducible refine aM ?_ ?_ | (simp;done))))
      refine dn 1 1 ?_ ?_ (IH (rest,k+1,out++a.x.names,_) ⟨g2,h2,by simp;omega,by simp <;> omega⟩ (Nat.lt_succ_self _))
      ·(simp only [go_sem,hD,hJ,hP,hY,aF bq];try exact bo)
      ·(simp only [go_sem,hD,hJ,hP,hY,aF bq];try exact bo)
end Go.Abs

/-! MayEq2 -/

namespace Go.Abs
theorem gU : ∀ (a b:List It) (n:Nat),It.ej n (a++b)=(It.ej n a && It.ej (n+a.length) b)
 | [],b,n=>by simp [It.ej]
 | i::a,b,n=>by
  simp only [List.cons_append,It.ej,gU a b (n+1),List.length_cons]
  have:n+1+a.length=n+(a.length+1):=by omega
  rw [this]
  split <;> simp
theorem wZ (n:Nat) (i:It):It.ej n [i] = true↔i.s.id=((n+1:Nat):Int)∧i.deep≤12∧i.s.one=true:=by
 simp only [It.ej]
 split
 ·rename_i h
  simp only [Bool.or_eq_true,bne_iff_ne,ne_eq,decide_eq_true_eq,Bool.not_eq_true']at h
  refine⟨fun h=>(Bool.false_ne_true h).elim,fun⟨h1,h2,h3⟩=> ?_⟩
  rcases h with (h | h) | h
  ·exact(h h1).elim
  ·omega
  ·rw [h]at h3;cases h3
 ·rename_i h
  simp only [Bool.or_eq_true,bne_iff_ne,ne_eq,decide_eq_true_eq,Bool.not_eq_true',not_or,Decidable.not_not,Bool.not_eq_false]at h
  exact⟨fun _=>⟨h.1.1,by omega,h.2⟩,fun _=>rfl⟩
mutual
theorem uc (deep bD:Int) (aQ:Bool) : ∀ (s:Sm) (out:List It),∃ new,fC deep bD aQ out s=out++(⟨s,deep,bD,aQ⟩::new)
 | ⟨id,kind,labels,name,proc,x,has,args,aZ,e⟩,out=>by
  simp only [fC]
  split
  ·obtain⟨n1,h1⟩:=me (deep+1) id false aZ (out++ [⟨⟨id,kind,labels,name,proc,x,has,args,aZ,e⟩,deep,bD,aQ⟩])
   obtain⟨n2,h2⟩:=me (deep+1) id true e (cw (deep+1) id false (out++ [⟨⟨id,kind,labels,name,proc,x,has,args,aZ,e⟩,deep,bD,aQ⟩]) aZ)
   rw [h2,h1]
   exact⟨n1++n2,by simp⟩
  ·exact⟨[],rfl⟩
theorem me (deep bD:Int) (aQ:Bool) : ∀ (l:List Sm) (out:List It),∃ new,cw deep bD aQ out l=out++new
 | [],out=>⟨[],by simp [cw]⟩
 | s::l,out=>by
  simp only [cw]
  split
  ·obtain⟨n1,h1⟩:=uc deep bD aQ s out
   obtain⟨n2,h2⟩:=me deep bD aQ l (fC deep bD aQ out s)
   rw [h2,h1]
   exact⟨⟨s,deep,bD,aQ⟩::n1++n2,by simp⟩
  ·exact⟨[],by simp⟩
end
theorem yJ {nest:Int} {n:Nat} {s:Sm} (h:(Sm.lC nest n s).1=true) :
 n+1≤200∧s.id=((n+1:Nat):Int)∧s.one=true∧(Sm.eD (nest+1) (n+1) s.aZ).1=true∧(Sm.eD (nest+1) (Sm.eD (nest+1) (n+1) s.aZ).2 s.aQ).1=true∧
 (Sm.lC nest n s).2=(Sm.eD (nest+1) (Sm.eD (nest+1) (n+1) s.aZ).2 s.aQ).2:=by
 rw [xX]at h ⊢
 split at h
 ·cases h
 rename_i h1
 simp only [Bool.or_eq_true,bne_iff_ne,ne_eq,decide_eq_true_eq,Bool.not_eq_true',not_or,Decidable.not_not,Bool.not_eq_false]at h1
 split at h
 ·cases h
 rename_i h2
 have rp:(Sm.eD (nest+1) (n+1) s.aZ).1=true:=by simpa using h2
 refine⟨by omega,h1.1.1.2, ?_,rp,h, ?_⟩
 ·rw [wY,h1.1.2,h1.2];rfl
 ·rw [if_neg (by simp only [Bool.or_eq_true,bne_iff_ne,ne_eq,decide_eq_true_eq,Bool.not_eq_true',not_or,Decidable.not_not,Bool.not_eq_false];exact h1),if_neg h2]
theorem ox {nest:Int} {n:Nat} {l:List Sm} (h:(Sm.eD nest n l).1=true):(l = []∨nest≤12)∧Sm.eD nest n l=Sm.dv nest n l:=by
 unfold Sm.eD gate at *
 split at h
 ·cases h
 ·rename_i hc
  rw [if_neg hc]
  refine⟨?_,rfl⟩
  simp only [Bool.and_eq_true,decide_eq_true_eq,not_and]at hc
  cases l with
  | nil=>exact .inl rfl
  | cons s l=>right;simp only [List.length_cons]at hc;omega
mutual
theorem Hi : ∀ (s:Sm) (nest bD:Int) (aQ:Bool) (n:Nat) (out:List It),nest≤12→out.length≤n→n≤200→(Sm.lC nest n s).1=true→
 ∃ new,fC nest bD aQ out s=out++new∧It.ej n new=true∧n+new.length=(Sm.lC nest n s).2∧(Sm.lC nest n s).2≤200
 | ⟨id,kind,labels,name,proc,x,has,args,aZ,e⟩,nest,bD,aQ,n,out,Hj,ho,hn,h=>by
  obtain⟨h1,h2,h3,h4,h5,h6⟩:=yJ h
  dsimp only at h2 h4 h5 h6
  rw [h6]
  obtain⟨g1,e1⟩:=ox h4
  rw [e1]at h4 h5 ⊢
  obtain⟨g2,e2⟩:=ox h5
  rw [e2]at h5 ⊢
  have rG:It.ej n [(⟨⟨id,kind,labels,name,proc,x,has,args,aZ,e⟩,nest,bD,aQ⟩:It)] = true:=(wZ _ _).2 ⟨h2,Hj,h3⟩
  obtain⟨n1,k1,k2,k3,k4⟩:=qx aZ (nest+1) id false (n+1) (out++ [⟨⟨id,kind,labels,name,proc,x,has,args,aZ,e⟩,nest,bD,aQ⟩]) g1 (by simp;omega) h1 h4
  obtain⟨n2,j1,j2,j3,j4⟩:=qx e (nest+1) id true _ (out++ [⟨⟨id,kind,labels,name,proc,x,has,args,aZ,e⟩,nest,bD,aQ⟩]++n1) g2 (by simp;omega) k4 h5
  simp only [fC]
  rw [if_pos (by simpa using Hj),k1,j1]
  refine⟨⟨⟨id,kind,labels,name,proc,x,has,args,aZ,e⟩,nest,bD,aQ⟩::(n1++n2),by simp, ?_, ?_,j4⟩
  ·have:(⟨⟨id,kind,labels,name,proc,x,has,args,aZ,e⟩,nest,bD,aQ⟩:It)::(n1++n2) = [⟨⟨id,kind,labels,name,proc,x,has,args,aZ,e⟩,nest,bD,aQ⟩]++n1++n2:=by simp
   rw [this,gU,gU,rG,Bool.true_and]
   have e3:n+([(⟨⟨id,kind,labels,name,proc,x,has,args,aZ,e⟩,nest,bD,aQ⟩:It)]++n1).length=(Sm.dv (nest+1) (n+1) aZ).2:=by simp;omega
   rw [e3,j2]
   have e4:n + [(⟨⟨id,kind,labels,name,proc,x,has,args,aZ,e⟩,nest,bD,aQ⟩:It)].length=n+1:=rfl
   rw [e4,k2];rfl
  ·simp only [List.length_cons,List.length_append];omega
theorem qx : ∀ (l:List Sm) (nest bD:Int) (aQ:Bool) (n:Nat) (out:List It),(l = []∨nest≤12)→out.length≤n→n≤200→(Sm.dv nest n l).1=true→
 ∃ new,cw nest bD aQ out l=out++new∧It.ej n new=true∧n+new.length=(Sm.dv nest n l).2∧(Sm.dv nest n l).2≤200
 | [],nest,bD,aQ,n,out,Hj,ho,hn,h=>⟨[],by simp [cw],rfl,by simp [Sm.dv],by simpa [Sm.dv]using hn⟩
 | s::l,nest,bD,aQ,n,out,Hj,ho,hn,h=>by
  have O1:nest≤12:=Hj.resolve_left (by simp)
  simp only [Sm.dv]at h ⊢
  split at h
  ·cases h
  rename_i hc
  rw [if_neg hc]
  obtain⟨n1,k1,k2,k3,k4⟩:=Hi s nest bD aQ n out O1 ho hn (by simpa using hc)
  obtain⟨n2,j1,j2,j3,j4⟩:=qx l nest bD aQ _ (out++n1) (.inr O1) (by simp;omega) k4 h
  simp only [cw]
  rw [if_pos (by simp only [decide_eq_true_eq];omega),k1,j1]
  refine⟨n1++n2,by simp, ?_,by simp;omega,j4⟩
  rw [gU,k2,k3,j2];rfl
end
mutual
theorem Hk : ∀ (s:Sm) (nest bD:Int) (aQ:Bool) (n:Nat) (out new:List It),fC nest bD aQ out s=out++new→It.ej n new=true→out.length≤n→n+new.length≤200→
 Sm.lC nest n s=(true,n+new.length)∧nest≤12
 | ⟨id,kind,labels,name,proc,x,has,args,aZ,e⟩,nest,bD,aQ,n,out,new,ke,hm,ho,hn=>by
  obtain⟨n0,h0⟩:=uc nest bD aQ ⟨id,kind,labels,name,proc,x,has,args,aZ,e⟩ out
  have e0:new = ⟨⟨id,kind,labels,name,proc,x,has,args,aZ,e⟩,nest,bD,aQ⟩::n0:=List.append_cancel_left (ke.symm.trans h0)
  subst e0
  have Q8:(⟨⟨id,kind,labels,name,proc,x,has,args,aZ,e⟩,nest,bD,aQ⟩:It)::n0 = [⟨⟨id,kind,labels,name,proc,x,has,args,aZ,e⟩,nest,bD,aQ⟩]++n0:=rfl
  rw [Q8,gU,Bool.and_eq_true]at hm
  obtain⟨Bk,hm2⟩:=hm
  obtain⟨c1,c2,c3⟩:=(wZ _ _).1 Bk
  dsimp only at c1 c2 c3
  simp only [List.length_cons]at hn ⊢
  have JU:cw (nest+1) id true (cw (nest+1) id false (out++ [⟨⟨id,kind,labels,name,proc,x,has,args,aZ,e⟩,nest,bD,aQ⟩]) aZ) e=out++([⟨⟨id,kind,labels,name,proc,x,has,args,aZ,e⟩,nest,bD,aQ⟩]++n0):=by
   simp only [fC]at ke
   rw [if_pos (by simpa using c2)]at ke
   exact ke
  obtain⟨n1,g1⟩:=me (nest+1) id false aZ (out++ [⟨⟨id,kind,labels,name,proc,x,has,args,aZ,e⟩,nest,bD,aQ⟩])
  obtain⟨n2,g2⟩:=me (nest+1) id true e (cw (nest+1) id false (out++ [⟨⟨id,kind,labels,name,proc,x,has,args,aZ,e⟩,nest,bD,aQ⟩]) aZ)
  have en:n0=n1++n2:=by
   rw [g2,g1]at JU
   simp only [List.append_assoc,List.append_cancel_left_eq]at JU
   exact JU.symm
  subst en
  have JV:It.ej (n+1) (n1++n2)=true:=hm2
  rw [gU,Bool.and_eq_true]at JV
  simp only [List.length_append]at hn ⊢
  obtain⟨r1,r2⟩:=qy aZ (nest+1) id false (n+1) _ n1 g1 JV.1 (by simp;omega) (by omega)
  obtain⟨q1,q2⟩:=qy e (nest+1) id true (n+1+n1.length) _ n2 g2 JV.2 (by rw [g1];simp;omega) (by omega)
  refine⟨?_,c2⟩
  have gg : ∀ {l:List Sm} {m:Nat} {r:Bool×Nat},Sm.dv (nest+1) m l=r→(l = []∨nest+1≤12)→Sm.eD (nest+1) m l=r:=by
   intro l m r h1 h2
   unfold Sm.eD gate
   rw [if_neg]
   ·exact h1
   ·simp only [Bool.and_eq_true,decide_eq_true_eq,not_and]
    rcases h2 with h2 | h2
    ·subst h2;simp
    ·omega
  have t1:=gg r1 r2
  have t2:=gg q1 q2
  rw [xX]
  dsimp only
  rw [t1]
  dsimp only
  rw [t2]
  rw [wY,Bool.and_eq_true]at c3
  rw [if_neg]
  ·simp;omega
  ·simp only [Bool.or_eq_true,bne_iff_ne,ne_eq,decide_eq_true_eq,Bool.not_eq_true',not_or,Decidable.not_not,Bool.not_eq_false]
   exact⟨⟨⟨by omega,c1⟩,c3.1⟩,c3.2⟩
theorem qy : ∀ (l:List Sm) (nest bD:Int) (aQ:Bool) (n:Nat) (out new:List It),cw nest bD aQ out l=out++new→It.ej n new=true→out.length≤n→n+new.length≤200→
 Sm.dv nest n l=(true,n+new.length)∧(l = []∨nest≤12)
 | [],nest,bD,aQ,n,out,new,ke,hm,ho,hn=>by
  simp only [cw]at ke
  have:new = []:=by simpa using ke
  subst this
  exact⟨by simp [Sm.dv], .inl rfl⟩
 | s::l,nest,bD,aQ,n,out,new,ke,hm,ho,hn=>by
  simp only [cw]at ke
  rw [if_pos (by simp only [decide_eq_true_eq];omega)]at ke
  obtain⟨n1,g1⟩:=uc nest bD aQ s out
  obtain⟨n2,g2⟩:=me nest bD aQ l (fC nest bD aQ out s)
  have en:new=(⟨s,nest,bD,aQ⟩::n1)++n2:=by
   rw [g2,g1,List.append_assoc,List.append_cancel_left_eq]at ke
   exact ke.symm
  subst en
  rw [gU,Bool.and_eq_true]at hm
  rw [List.length_append]at hn ⊢
  obtain⟨r1,r2⟩:=Hk s nest bD aQ n out _ g1 hm.1 ho (by omega)
  obtain⟨q1,q2⟩:=qy l nest bD aQ (n+(⟨s,nest,bD,aQ⟩::n1:List It).length) _ n2 g2 hm.2 (by rw [g1,List.length_append];omega) (by omega)
  refine⟨?_, .inr r2⟩
  simp only [Sm.dv,r1,Bool.not_true,Bool.false_eq_true, ↓reduceIte,q1]
  congr 1;omega
end
theorem uf : ∀ (l:List Pc) (out:List It),out.length≤200→(Pc.dv out.length l=true↔Pc.lR l=true∧∃ new,allM out l=out++new∧(out++new).length≤200∧It.ej out.length new=true)
 | [],out,ho=>by simp [Pc.dv,Pc.lR,allM,It.ej];exact ho
 | f::l,out,ho=>by
  have JW : ∀ (l:List Pc) (out:List It),∃ new,allM out l=out++new:=by
   intro l
   induction l with
   | nil=>intro out;exact⟨[],by simp [allM]⟩
   | cons f l ih=>
    intro out
    simp only [allM]
    split
    ·exact⟨_,rfl⟩
    ·obtain⟨n1,h1⟩:=ih (out++f.flat)
     exact⟨f.flat++n1,by rw [h1,List.append_assoc]⟩
  simp only [Pc.dv,Pc.lR]
  have Q9:(decide ((f.params.length:Int) > 8) || decide ((f.vars.length:Int) > 16) || !(isName f.name) || !(dk f.vars) || !(dk f.fin))=(!(isName f.name) || decide ((f.params.length:Int) > 8) || decide ((f.vars.length:Int) > 16) || !(dk f.vars) || !(dk f.fin)):=by
   cases isName f.name <;> simp
  rw [Q9]
  split
  ·simp
  split
  ·simp
  have hg:Sm.eD 1 out.length f.body=Sm.dv 1 out.length f.body:=by unfold Sm.eD gate;rw [if_neg (by simp)]
  rw [hg]
  constructor
  ·intro h
   split at h
   ·cases h
   rename_i hc
   obtain⟨n1,k1,k2,k3,k4⟩:=qx f.body 1 0 false out.length [] (.inr (by omega)) (by simp) ho (by simpa using hc)
   have ke:f.flat=n1:=by unfold Pc.flat;rw [k1];rfl
   rw [← k3, ← List.length_append]at h
   obtain⟨hh,n2,j1,j2,j3⟩:=(uf l (out++n1) (by rw [List.length_append];omega)).1 h
   refine⟨hh,n1++n2, ?_,by simpa using j2, ?_⟩
   ·simp only [allM,ke]
    rw [if_neg (by simp only [List.length_append,decide_eq_true_eq];omega),j1,List.append_assoc]
   ·rw [gU,k2, ← List.length_append,j3];rfl
  ·rintro⟨hh,new,j1,j2,j3⟩
   simp only [allM]at j1
   split at j1
   ·rename_i hc
    have:new=f.flat:=(List.append_cancel_left j1).symm
    subst this
    simp only [decide_eq_true_eq]at hc
    omega
   rename_i hc
   simp only [decide_eq_true_eq]at hc
   obtain⟨n2,g2⟩:=JW l (out++f.flat)
   have en:new=f.flat++n2:=by
    rw [g2,List.append_assoc]at j1
    exact(List.append_cancel_left j1).symm
   subst en
   rw [gU,Bool.and_eq_true]at j3
   rw [List.length_append,List.length_append]at j2
   obtain⟨r1,_⟩:=qy f.body 1 0 false out.length [] f.flat (by unfold Pc.flat;rfl) j3.1 (by simp) (by omega)
   rw [r1]
   simp only [Bool.not_true,Bool.false_eq_true, ↓reduceIte]
   rw [← List.length_append]
   exact(uf l (out++f.flat) (by rw [List.length_append];omega)).2 ⟨hh,n2,g2,by simp;omega,by rw [List.length_append];exact j3.2⟩
theorem CM (p:Pg):p.xZ=p.may:=by
 have h:=uf p.procs [] (by simp)
 unfold Pg.xZ Pg.may
 split
 ·rfl
 ·have e:Pc.dv 0 p.procs=(if !(Pc.lR p.procs)then false else if decide ((p.all.length:Int) > 200)then false else It.ej 0 p.all):=by
   rw [Bool.eq_iff_iff]
   have h':Pc.dv 0 p.procs=true↔_:=h
   rw [h']
   have ha:p.all=allM [] p.procs:=rfl
   constructor
   ·rintro⟨h1,new,h2,h3,h4⟩
    rw [ha,h2,h1]
    simp only [List.nil_append]at h3 ⊢
    simp only [Bool.not_true,Bool.false_eq_true, ↓reduceIte]
    rw [if_neg (by simp only [decide_eq_true_eq];omega)]
    exact h4
   ·intro h1
    cases hh:Pc.lR p.procs
    ·rw [hh]at h1;simp at h1
    ·rw [hh]at h1
     simp only [Bool.not_true,Bool.false_eq_true, ↓reduceIte]at h1
     split at h1
     ·cases h1
     ·rename_i hc
      simp only [decide_eq_true_eq]at hc
      exact⟨rfl,p.all,by rw [ha];rfl,by simp;omega,h1⟩
  exact e
end Go.Abs

/-! Tree1 -/

namespace Go.Abs
open Go.Proofs
end Go.Abs

/-! Tree2 -/

namespace Go.Abs
open Go.Proofs
end Go.Abs

/-! Sc1 -/

namespace Go.Abs
set_option maxRecDepth 8000
open Go.Proofs
def T9 (x:aD):List aD→Bool
 | []=>false
 | s::l=>if x==s then true else T9 x l
def vj (pre:List aD):List aD→Bool
 | []=>false
 | s::l=>if dG pre s then true else vj (pre++ [s]) l
def eQ (l:List aD):Bool:=vj [] l
theorem Hl {l:List aD} {k:Nat} {a:aD} (h:l[k]? = some a):l.take (k+1)=l.take k++ [a]:=by rw [List.take_add_one,h];rfl
theorem O2 {l:List aD} (hl:l.length<4611686018427387904) (x:aD) (g:Tag) (s:St):aI Try.prog ql [.slice g 1 (l.map encStr), .str x] s (.bool (dG l x)) s:=by
 refine aI.CH (d':= .slice .shared 1 (l.map encStr)) ?_ (Wk.shared _ _ _)
 refine aI.pure ?_ (by simp [D.bE,D.ok,Tag.ok,e9]) rfl s
 rw [← yI]
 generalize h:sn x l=p
 unfold S0
 refine aI.go Cd rfl fun B Q hB hQ=> ?_
 have⟨hD,hJ,hP,hY⟩:=bZ
 repeat' (first
 | simp only [go_sem,hD,hJ,hP,hY]
 | (with_reducible first | refine cy fun hc=> ?_ | refine cz fun hc=> ?_ | refine cA (fun hc=> ?_) fun hc=> ?_) <;> (try simp only [hc,bs, ↓reduceIte]at h) <;> try simp only [hc]
 | (with_reducible refine aJ hQ ?_;(try cases h);simp only [ay,az,c9,da,go_sem,hD,hJ,hP,hY];repeat' (first | exact Ok.out | with_reducible refine aM ?_ ?_ | (simp;done))))
 refine dD 0 0 (bp.ind (ι:=List aD×Nat) (fun i=>l.drop i.2=i.1∧sn x i.1=p) (fun i=>i.1.length)
  (fun i=> [(0, .slice .shared 1 (l.map encStr)),(1, .str x),(7, .int .i64 (l.length:Int)),(8, .int .i64 (i.2:Int))]) (fun i=>⟨[],[]⟩) ?_ (l,0) ⟨rfl,h⟩)
 rintro⟨rest,k⟩ ⟨h1,h⟩ IH
 dsimp only at h1 h
 cases rest with
 | nil=>
  have hD:=drop_nil h1
  simp only [sn]at h
  repeat' (first
 | simp only [go_sem,hD,hJ,hP,hY]
 | (with_reducible first | refine cy fun hc=> ?_ | refine cz fun hc=> ?_ | refine cA (fun hc=> ?_) fun hc=> ?_) <;> (try simp only [hc,bs, ↓reduceIte]at h) <;> try simp only [hc]
 | (with_reducible refine aJ hQ ?_;(try cases h);simp only [ay,az,c9,da,go_sem,hD,hJ,hP,hY];repeat' (first | exact Ok.out | with_reducible refine aM ?_ ?_ | (simp;done))))
 | cons a rest=>
  obtain⟨hJ,g2,hD,g4⟩:=drop_cons h1
  have bq:k<4611686018427387904:=by omega
  simp only [sn]at h
  repeat' (first
 | simp only [go_sem,hD,hJ,hP,hY]
 | (with_reducible first | refine cy fun hc=> ?_ | refine cz fun hc=> ?_ | refine cA (fun hc=> ?_) fun hc=> ?_) <;> (try simp only [hc,bs, ↓reduceIte]at h) <;> try simp only [hc]
 | (with_reducible refine aJ hQ ?_;(try cases h);simp only [ay,az,c9,da,go_sem,hD,hJ,hP,hY];repeat' (first | exact Ok.out | with_reducible refine aM ?_ ?_ | (simp;done))))
  refine dn 0 0 ?_ ?_ (IH (rest,k+1) ⟨g2,h⟩ (Nat.lt_succ_self _))
  ·(simp only [go_sem,hD,hJ,hP,hY,aF bq];try exact bo)
  ·(simp only [go_sem,hD,hJ,hP,hY,aF bq];try exact bo)
theorem vK {l:List aD} (hl:l.length<4611686018427387904) (g:Tag) (s:St):aI Try.prog kn [.slice g 1 (l.map encStr)] s (.bool (eQ l)) s:=by
 refine aI.CH (d':= .slice .shared 1 (l.map encStr)) ?_ (Wk.shared _ _ _)
 refine aI.pure ?_ (by simp [D.bE,D.ok,Tag.ok,e9]) rfl s
 generalize h:eQ l=p
 simp only [eQ]at h
 unfold S0
 refine aI.go wI rfl fun B Q hB hQ=> ?_
 have⟨hD,hJ,hP,hY⟩:=bZ
 repeat' (first
 | simp only [go_sem,hD,hJ,hP,hY]
 | (with_reducible first | refine cy fun hc=> ?_ | refine cz fun hc=> ?_ | refine cA (fun hc=> ?_) fun hc=> ?_) <;> (try simp only [hc,bs, ↓reduceIte]at h) <;> try simp only [hc]
 | (with_reducible refine aJ hQ ?_;(try cases h);simp only [ay,az,c9,da,go_sem,hD,hJ,hP,hY];repeat' (first | exact Ok.out | with_reducible refine aM ?_ ?_ | (simp;done))))
 refine dD 0 0 (bp.ind (ι:=List aD×Nat) (fun i=>l.drop i.2=i.1∧vj (l.take i.2) i.1=p) (fun i=>i.1.length)
  (fun i=> [(0, .slice .shared 1 (l.map encStr)),(5, .slice .shared 1 (l.map encStr)),(6, .int .i64 (l.length:Int)),(7, .int .i64 (i.2:Int))]) (fun i=>⟨[],[]⟩) ?_ (l,0) ⟨rfl,h⟩)
 rintro⟨rest,k⟩ ⟨h1,h⟩ IH
 dsimp only at h1 h
 cases rest with
 | nil=>
  have hD:=drop_nil h1
  simp only [vj]at h
  repeat' (first
 | simp only [go_sem,hD,hJ,hP,hY]
 | (with_reducible first | refine cy fun hc=> ?_ | refine cz fun hc=> ?_ | refine cA (fun hc=> ?_) fun hc=> ?_) <;> (try simp only [hc,bs, ↓reduceIte]at h) <;> try simp only [hc]
 | (with_reducible refine aJ hQ ?_;(try cases h);simp only [ay,az,c9,da,go_sem,hD,hJ,hP,hY];repeat' (first | exact Ok.out | with_reducible refine aM ?_ ?_ | (simp;done))))
 | cons a rest=>
  obtain⟨hJ,g2,hD,g4⟩:=drop_cons h1
  have bq:k<4611686018427387904:=by omega
  simp only [vj]at h
  have hc:=gu (l:=l.take k) (by rw [List.length_take];omega) a
  have e1:List.drop 0 (List.take k (l.map encStr))=(l.take k).map encStr:=by simp [List.map_take]
  have c1:((0:Int)≤(k:Int))=True:=by simp
  have c2:((k:Int)≤(l.length:Int))=True:=by simp only [eq_iff_iff,iff_true];omega
  have e2:List.take k (l.map encStr)=(l.take k).map encStr:=by simp [List.map_take]
  repeat' (first
 | simp only [go_sem,hD,hJ,hP,hY,e1,e2,c1,c2,or_true,true_and,and_self,ite_self,Int.toNat_natCast,List.drop_zero]
 | (with_reducible refine CU (hc _ _) ?_)
 | (with_reducible first | refine cy fun hc=> ?_ | refine cz fun hc=> ?_ | refine cA (fun hc=> ?_) fun hc=> ?_) <;> (try simp only [hc,bs, ↓reduceIte]at h) <;> try simp only [hc]
 | (with_reducible refine aJ hQ ?_;(try cases h);simp only [ay,az,c9,da,go_sem,hD,hJ,hP,hY,e1,e2,c1,c2,or_true,true_and,and_self,ite_self,Int.toNat_natCast,List.drop_zero];repeat' (first | exact Ok.out | with_reducible refine aM ?_ ?_ | (simp;done))))
  refine dn 0 0 ?_ ?_ (IH (rest,k+1) ⟨g2,by dsimp only;rw [Hl (by assumption)];exact h⟩ (Nat.lt_succ_self _))
  ·(simp only [go_sem,hD,hJ,hP,hY,aF bq];try exact bo)
  ·(simp only [go_sem,hD,hJ,hP,hY,aF bq];try exact bo)
end Go.Abs

/-! Sc2 -/

namespace Go.Abs
set_option maxRecDepth 8000
open Go.Proofs
def w5 (vars globals:List aD) (name:aD):List Pm→Int
 | []=>if dG vars name then 4 else if dG globals name then 1 else 0
 | a::l=>if a.name==name then(if a.ref then 3 else 2)else w5 vars globals name l
def Pc.jA (p:Pg) (f:Pc) (name:aD):Int:=w5 f.vars p.globals name f.params
theorem Bl {p:Pg} {f:Pc} (hp:f.params.length<1000000000) (hv:f.vars.length<1000000000) (hg:p.globals.length<1000000000) (name:aD) (s:St):aI Try.prog pE [.agg (bN p), .agg (bL f), .str name] s (.int .i64 (f.jA p name)) s:=by
 refine aI.pure ?_ (by simp [D.bE,D.ok,jh,tM]) rfl s
 have np:=gu (l:=f.vars) (by omega) name
 have rp:=gu (l:=p.globals) (by omega) name
 generalize h:f.jA p name=q
 simp only [Pc.jA]at h
 unfold S0
 refine aI.go xN rfl fun B Q hB hQ=> ?_
 have⟨hD,hJ,hP,hY⟩:=bZ
 repeat' (first
 | simp only [go_sem,hD,hJ,hP,hY]
 | (with_reducible refine aJ hQ ?_;simp only [ay,az,Option.some.injEq,exists_eq_left',go_sem,hD,hJ,hP,hY];repeat' (first | exact Ok.out | with_reducible refine aM ?_ ?_ | (simp;done))))
 refine dD 2 0 (bp.ind (ι:=List Pm×Nat) (fun i=>f.params.drop i.2=i.1∧w5 f.vars p.globals name i.1=q) (fun i=>i.1.length)
  (fun i=> [(2, .str name),(3, .ptr 0 0),(4, .ptr 1 0),(10, .slice .shared 2 (f.params.map fq)),(11, .int .i64 (f.params.length:Int)),(12, .int .i64 (i.2:Int))]) (fun i=>⟨[bN p,bL f],[]⟩) ?_ (f.params,0) ⟨rfl,h⟩)
 rintro⟨rest,k⟩ ⟨h1,h⟩ IH
 dsimp only at h1 h
 cases rest with
 | nil=>
  have hD:=drop_nil h1
  simp only [w5]at h
  rcases Bool.eq_false_or_eq_true (dG f.vars name)with b1 | b1
  ·simp only [b1,if_true]at h
   subst h
   repeat' (first
 | simp only [go_sem,hD,hJ,hP,hY,b1]
 | (with_reducible refine CU (np _ _) ?_)
 | (with_reducible refine CU (rp _ _) ?_)
 | (with_reducible refine aJ hQ ?_;simp only [ay,az,Option.some.injEq,exists_eq_left',go_sem,hD,hJ,hP,hY];repeat' (first | exact Ok.out | with_reducible refine aM ?_ ?_ | (simp;done))))
  ·simp only [b1,Bool.false_eq_true,if_false]at h
   rcases Bool.eq_false_or_eq_true (dG p.globals name)with b2 | b2
   ·simp only [b2,if_true]at h
    subst h
    repeat' (first
 | simp only [go_sem,hD,hJ,hP,hY,b1,b2]
 | (with_reducible refine CU (np _ _) ?_)
 | (with_reducible refine CU (rp _ _) ?_)
 | (with_reducible refine aJ hQ ?_;simp only [ay,az,Option.some.injEq,exists_eq_left',go_sem,hD,hJ,hP,hY];repeat' (first | exact Ok.out | with_reducible refine aM ?_ ?_ | (simp;done))))
   ·simp only [b2,Bool.false_eq_true,if_false]at h
    subst h
    repeat' (first
 | simp only [go_sem,hD,hJ,hP,hY,b1,b2]
 | (with_reducible refine CU (np _ _) ?_)
 | (with_reducible refine CU (rp _ _) ?_)
 | (with_reducible refine aJ hQ ?_;simp only [ay,az,Option.some.injEq,exists_eq_left',go_sem,hD,hJ,hP,hY];repeat' (first | exact Ok.out | with_reducible refine aM ?_ ?_ | (simp;done))))
 | cons a rest=>
  obtain⟨hJ,g2,hD,g4⟩:=drop_cons h1
  have bq:k<4611686018427387904:=by omega
  simp only [w5]at h
  rcases Bool.eq_false_or_eq_true (a.name==name)with b1 | b1
  ·simp only [b1,if_true]at h
   rcases Bool.eq_false_or_eq_true a.ref with b2 | b2
   ·simp only [b2,if_true]at h
    subst h
    repeat' (first
 | simp only [go_sem,hD,hJ,hP,hY,b1,b2]
 | (with_reducible refine aJ hQ ?_;simp only [ay,az,Option.some.injEq,exists_eq_left',go_sem,hD,hJ,hP,hY];repeat' (first | exact Ok.out | with_reducible refine aM ?_ ?_ | (simp;done))))
   ·simp only [b2,Bool.false_eq_true,if_false]at h
    subst h
    repeat' (first
 | simp only [go_sem,hD,hJ,hP,hY,b1,b2]
 | (with_reducible refine aJ hQ ?_;simp only [ay,az,Option.some.injEq,exists_eq_left',go_sem,hD,hJ,hP,hY];repeat' (first | exact Ok.out | with_reducible refine aM ?_ ?_ | (simp;done))))
  ·simp only [b1,Bool.false_eq_true,if_false]at h
   repeat' (first
 | simp only [go_sem,hD,hJ,hP,hY,b1]
 | (with_reducible refine aJ hQ ?_;simp only [ay,az,Option.some.injEq,exists_eq_left',go_sem,hD,hJ,hP,hY];repeat' (first | exact Ok.out | with_reducible refine aM ?_ ?_ | (simp;done))))
   refine dn 2 0 ?_ ?_ (IH (rest,k+1) ⟨g2,h⟩ (Nat.lt_succ_self _))
   ·(simp only [go_sem,hD,hJ,hP,hY,aF bq];try exact bo)
   ·(simp only [go_sem,hD,hJ,hP,hY,aF bq];try exact bo)
def gV (name:aD):List Pc→Option Pc
 | []=>none
 | f::l=>if f.name==name then some f else gV name l
def Pg.find (p:Pg) (name:aD):Option Pc:=gV name p.procs
def pc0:Pc:=⟨[],[],[],[],[]⟩
def Uy (r:Option Pc):D:= .tuple [.agg (bL (r.getD pc0)), .bool r.isSome]
theorem O3 (f:Pc):bL f = [.str f.name, .slice .shared 2 (f.params.map fq), .slice .shared 1 (f.vars.map encStr), .slice .shared 13 (f.body.map bd), .slice .shared 1 (f.fin.map encStr)]:=nd rfl
end Go.Abs

/-! Sc3 -/

namespace Go.Abs
set_option maxRecDepth 8000
open Go.Proofs
def Pc.w6 (f:Pc):List aD:=f.params.map (·.name)
def Pc.own (f:Pc):List aD:=f.w6++f.vars
theorem Ra {f:Pc} (hp:f.params.length<1000000) (hv:f.vars.length<1000000) (s:St):aI Try.prog qS [.agg (bL f)] s (.slice .shared 1 (f.own.map encStr)) s:=by
 refine aI.pure ?_ (by simp [D.bE,D.ok,tM]) (by simp only [D.ok,Tag.ok,e9];rfl) s
 generalize hR:f.own=R
 simp only [Pc.own]at hR
 unfold S0
 refine aI.go zo rfl fun B Q hB hQ=> ?_
 have⟨hD,hJ,hP,hY⟩:=bZ
 repeat' (first
 | simp only [go_sem,hD,hJ,hP,hY]
 | (with_reducible refine aJ hQ ?_;simp only [ay,az,Option.some.injEq,exists_eq_left',go_sem,hD,hJ,hP,hY];repeat' (first | exact Ok.out | with_reducible refine aM ?_ ?_ | (simp;done))))
 refine bp.pB 3 1 rfl ?_
 simp only [go_sem,hD,hJ,hP,hY]
 refine dD 1 1 (bp.ind (ι:=List Pm×Nat×List aD×Nat) (fun i=>f.params.drop i.2.1=i.1∧i.2.2.1++i.1.map (·.name)=f.w6∧i.2.2.2=i.2.2.1.length) (fun i=>i.1.length)
  (fun i=> [(1, .ptr 0 0),(3, .slice (.tok 0) 1 (i.2.2.1.map encStr)),(7, .slice .shared 2 (f.params.map fq)),(8, .int .i64 (f.params.length:Int)),(9, .int .i64 (i.2.1:Int))]) (fun i=>⟨[bL f],[some i.2.2.2]⟩) ?_ (f.params,0,[],0) ⟨rfl,rfl,rfl⟩)
 rintro⟨rest,k,out,n⟩ ⟨h1,h2,h3⟩ IH
 dsimp only at h1 h2 h3
 subst h3
 have hlo:out.length+rest.length<1000000:=by
  have:=congrArg List.length h2
  simp only [List.length_append,List.length_map,Pc.w6]at this
  omega
 cases rest with
 | nil=>
  have hD:=drop_nil h1
  simp only [List.map_nil,List.append_nil]at h2
  subst hR
  rw [← h2]at hQ
  have eB:=gI (l:=out) (nx:=f.vars) rfl (by omega) (g:= .shared)
  repeat' (first
 | simp only [go_sem,hD,hJ,hP,hY,eB]
 | (with_reducible refine aJ hQ ?_;simp only [ay,az,Option.some.injEq,exists_eq_left',go_sem,hD,hJ,hP,hY];repeat' (first | exact Ok.out | with_reducible refine aM ?_ ?_ | (simp;done))))
 | cons a rest=>
  obtain⟨hJ,g2,hD,g4⟩:=drop_cons h1
  have bq:k<4611686018427387904:=by omega
  have hP:(out.length+1)*17≤bF:=by unfold bF;omega
  repeat' (first
 | simp only [go_sem,hD,hJ,hP,hY]
 | (with_reducible refine aJ hQ ?_;simp only [ay,az,Option.some.injEq,exists_eq_left',go_sem,hD,hJ,hP,hY];repeat' (first | exact Ok.out | with_reducible refine aM ?_ ?_ | (simp;done))))
  refine dn 1 1 ?_ ?_ (IH (rest,k+1,out++ [a.name],out.length+1) ⟨g2,by rw [← h2];simp,by simp⟩ (Nat.lt_succ_self _))
  ·(simp only [go_sem,hD,hJ,hP,hY,aF bq,List.map_append,List.map_cons,List.map_nil,encStr];try exact bo)
  ·(simp only [go_sem,hD,hJ,hP,hY,aF bq,List.map_append,List.map_cons,List.map_nil,encStr];try exact bo)
def mT:aD:= [109,97,105,110]
def Sm.known (p:Pg) (f:Pc) (procs:List aD) (v:Sm):Bool:=
 !(v.said.any fun n=>f.jA p n==0) && (v.kind != 4 || (v.proc != mT && dG procs v.proc))
structure Pc.Small (p:Pg) (f:Pc):Prop where
 par:f.params.length<1000000
 vars:f.vars.length<1000000
 Bf:p.globals.length<1000000
def uL (p:Pg) (f:Pc):List aD→Bool
 | []=>true
 | n::l=>if f.jA p n==0 then false else uL p f l
theorem yK (p:Pg) (f:Pc) : ∀ l,uL p f l = !(l.any fun n=>f.jA p n==0)
 | []=>rfl
 | n::l=>by
  simp only [uL,List.any_cons,yK p f l]
  cases (f.jA p n==0) <;> simp
theorem Bm (v:Sm) (h:v.ko):v.said.length<3000000:=by
 have : ∀ (l:List Ar) (out:List aD),(Ar.said out l).length≤out.length+2*Ar.aS l:=by
  intro l
  induction l with
  | nil=>intro out;simp [Ar.said]
  | cons a l ih=>
   intro out
   simp only [Ar.said,Ar.aS]
   refine Nat.le_trans (ih _) ?_
   have:=hZ a.x
   have:1≤a.x.size:=by obtain⟨_,_,_,_⟩:=a.x;simp [Ex.size]
   simp only [List.length_append]
   split <;> simp <;> omega
 have h1:=this v.args (v.o8++v.x.names)
 have h2:=hZ v.x
 have h3:=h.2.2
 have h4:v.o8.length≤1:=by unfold Sm.o8;split <;> simp
 simp only [List.length_append]at h1
 unfold Sm.said
 omega
theorem Mu {p:Pg} {f:Pc} {procs:List aD} {v:Sm} (hs:f.Small p) (yL:procs.length<1000000) (hv:v.ko) (s:St):aI Try.prog lQ [.agg (bN p), .agg (bL f), .slice .shared 1 (procs.map encStr), .agg (bd v)] s (.bool (v.known p f procs)) s:=by
 refine aI.pure ?_ (by simp [D.bE,D.ok,jh,tM,lX,Tag.ok,e9]) rfl s
 have hn:=fun s=>ub hv s
 have hk:=fun n s=>Bl (p:=p) (f:=f) (by have:=hs.par;omega) (by have:=hs.vars;omega) (by have:=hs.Bf;omega) n s
 have O4:=gu (l:=procs) (by omega) v.proc
 have hl:=Bm v hv
 generalize h:v.known p f procs=q
 simp only [Sm.known, ← yK]at h
 unfold S0
 refine aI.go wJ rfl fun B Q hB hQ=> ?_
 have⟨hD,hJ,hP,hY⟩:=bZ
 repeat' (first
 | simp only [go_sem,hD,hJ,hP,hY]
 | (with_reducible refine CU (hn _) ?_)
 | (with_reducible refine aJ hQ ?_;simp only [ay,az,Option.some.injEq,exists_eq_left',go_sem,hD,hJ,hP,hY];repeat' (first | exact Ok.out | with_reducible refine aM ?_ ?_ | (simp;done))))
 refine dD 3 0 (bp.ind (ι:=List aD×Nat) (fun i=>v.said.drop i.2=i.1∧(uL p f i.1 && (v.kind != 4 || (v.proc != mT && dG procs v.proc)))=q) (fun i=>i.1.length)
  (fun i=> [(2, .slice .shared 1 (procs.map encStr)),(4, .ptr 0 0),(5, .ptr 1 0),(7, .ptr 2 0),(12, .slice .shared 1 (v.said.map encStr)),(13, .int .i64 (v.said.length:Int)),(14, .int .i64 (i.2:Int))]) (fun i=>⟨[bN p,bL f,bd v],[]⟩) ?_ (v.said,0) ⟨rfl,h⟩)
 rintro⟨rest,k⟩ ⟨h1,h⟩ IH
 dsimp only at h1 h
 cases rest with
 | nil=>
  have hD:=drop_nil h1
  simp only [uL,Bool.true_and]at h
  rcases Bool.eq_false_or_eq_true (v.kind != 4)with b1 | b1
  ·simp only [b1,Bool.true_or]at h
   subst h
   repeat' (first
 | simp only [go_sem,hD,hJ,hP,hY,b1]
 | (with_reducible refine aJ hQ ?_;simp only [ay,az,Option.some.injEq,exists_eq_left',go_sem,hD,hJ,hP,hY];repeat' (first | exact Ok.out | with_reducible refine aM ?_ ?_ | (simp;done))))
  ·simp only [b1,Bool.false_or]at h
   rcases Bool.eq_false_or_eq_true (v.proc != mT)with b2 | b2
   ·simp only [b2,Bool.true_and]at h
    unfold mT at b2
    have b3:(v.proc == [109,97,105,110]) = !(v.proc != [109,97,105,110]):=by simp only [bne,Bool.not_not]
    rw [b2]at b3
    simp only [Bool.not_true,Bool.not_false]at b3
    subst h
    repeat' (first
 | simp only [go_sem,hD,hJ,hP,hY,b1,b2,b3]
 | (with_reducible refine CU (O4 _ _) ?_)
 | (with_reducible refine aJ hQ ?_;simp only [ay,az,Option.some.injEq,exists_eq_left',go_sem,hD,hJ,hP,hY];repeat' (first | exact Ok.out | with_reducible refine aM ?_ ?_ | (simp;done))))
   ·simp only [b2,Bool.false_and]at h
    unfold mT at b2
    have b3:(v.proc == [109,97,105,110]) = !(v.proc != [109,97,105,110]):=by simp only [bne,Bool.not_not]
    rw [b2]at b3
    simp only [Bool.not_true,Bool.not_false]at b3
    subst h
    repeat' (first
 | simp only [go_sem,hD,hJ,hP,hY,b1,b2,b3]
 | (with_reducible refine CU (O4 _ _) ?_)
 | (with_reducible refine aJ hQ ?_;simp only [ay,az,Option.some.injEq,exists_eq_left',go_sem,hD,hJ,hP,hY];repeat' (first | exact Ok.out | with_reducible refine aM ?_ ?_ | (simp;done))))
 | cons a rest=>
  obtain⟨hJ,g2,hD,g4⟩:=drop_cons h1
  have bq:k<4611686018427387904:=by omega
  simp only [uL]at h
  rcases Bool.eq_false_or_eq_true (f.jA p a==0)with b1 | b1
  ·simp only [b1,if_true,Bool.false_and]at h
   subst h
   repeat' (first
 | simp only [go_sem,hD,hJ,hP,hY,b1]
 | (with_reducible refine CU (hk _ _) ?_)
 | (with_reducible refine aJ hQ ?_;simp only [ay,az,Option.some.injEq,exists_eq_left',go_sem,hD,hJ,hP,hY];repeat' (first | exact Ok.out | with_reducible refine aM ?_ ?_ | (simp;done))))
  ·simp only [b1,Bool.false_eq_true,if_false]at h
   repeat' (first
 | simp only [go_sem,hD,hJ,hP,hY,b1]
 | (with_reducible refine CU (hk _ _) ?_)
 | (with_reducible refine aJ hQ ?_;simp only [ay,az,Option.some.injEq,exists_eq_left',go_sem,hD,hJ,hP,hY];repeat' (first | exact Ok.out | with_reducible refine aM ?_ ?_ | (simp;done))))
   refine dn 3 0 ?_ ?_ (IH (rest,k+1) ⟨g2,h⟩ (Nat.lt_succ_self _))
   ·(simp only [go_sem,hD,hJ,hP,hY,aF bq];try exact bo)
   ·(simp only [go_sem,hD,hJ,hP,hY,aF bq];try exact bo)
end Go.Abs

/-! ScP -/

namespace Go.Abs
theorem CN : ∀ (l pre:List aD),vj pre l=true↔(∃ x∈l,x∈pre)∨¬ l.Nodup
 | [],pre=>by simp [vj]
 | s::l,pre=>by
  simp only [vj]
  by_cases h:dG pre s=true
  ·simp only [h,if_true,true_iff]
   exact .inl ⟨s,List.mem_cons_self,(jm _ _).1 h⟩
  ·have h':s∉pre:=fun m=>h ((jm _ _).2 m)
   simp only [h,if_false,Bool.false_eq_true]
   rw [CN l (pre++ [s])]
   simp only [List.mem_append,List.mem_singleton,List.mem_cons,List.nodup_cons,exists_eq_or_imp]
   constructor
   ·rintro(⟨x,m,h1 | h1⟩ | h1)
    ·exact .inl (.inr ⟨x,m,h1⟩)
    ·have h1:x=s:=by simpa using h1
     subst h1;exact .inr fun h=>h.1 m
    ·exact .inr fun h=>h1 h.2
   ·rintro((h1 | ⟨x,m,h1⟩) | h1)
    ·exact absurd h1 h'
    ·exact .inl ⟨x,m, .inl h1⟩
    ·by_cases m:s∈l
     ·exact .inl ⟨s,m, .inr (.inl rfl)⟩
     ·exact .inr fun h=>h1 ⟨m,h⟩
theorem yM (l:List aD):eQ l=true↔¬ l.Nodup:=by
 unfold eQ;rw [CN];simp
theorem Hm (a b:List aD):eQ (a++b)=(eQ a || (eQ b || b.any (dG a))):=by
 have h:eQ (a++b)=true↔(eQ a || (eQ b || b.any (dG a)))=true:=by
  rw [yM,List.nodup_append]
  simp only [Bool.or_eq_true,yM,List.any_eq_true,jm]
  constructor
  ·intro h
   by_cases ha:a.Nodup
   ·by_cases hb:b.Nodup
    ·refine .inr (.inr (Classical.byContradiction fun hn=>h ⟨ha,hb,fun x hx y hy e=>hn ⟨y,hy,e ▸ hx⟩⟩))
    ·exact .inr (.inl hb)
   ·exact .inl ha
  ·rintro(h | h | ⟨x,h1,h2⟩) ⟨h3,h4,h5⟩
   ·exact h h3
   ·exact h h4
   ·exact h5 x h2 x h1 rfl
 cases h1:eQ (a++b) <;> cases h2:(eQ a || (eQ b || b.any (dG a))) <;> simp_all
theorem Bn (name:aD) : ∀ (l:List Pc) (k:Nat),(gV name l=none∧kB name (k:Int) (l.map (·.name)) = -1)∨∃ f j,gV name l=some f∧l[j]? = some f∧kB name (k:Int) (l.map (·.name))=((k+j:Nat):Int)
 | [],k=> .inl ⟨rfl,rfl⟩
 | f::l,k=>by
  by_cases h:f.name=name
  ·subst h
   refine .inr ⟨f,0,by simp [gV],rfl,by simp [kB]⟩
  ·have h1:(f.name==name)=false:=by simp [h]
   have h2:(name==f.name)=false:=by simp [Ne.symm h]
   simp only [gV,h1,Bool.false_eq_true,if_false,List.map_cons,kB,h2]
   rcases Bn name l (k+1)with ⟨g1,g2⟩ | ⟨g,j,g1,g2,g3⟩
   ·exact .inl ⟨g1,by rw [← g2];rfl⟩
   ·refine .inr ⟨g,j+1,g1,by simpa using g2, ?_⟩
    rw [show((k:Int)+1)=((k+1:Nat):Int)from rfl,g3]
    congr 1;omega
theorem nQ {name:aD} {f:Pc} : ∀ {l:List Pc},gV name l=some f→f∈l∧f.name=name
 | g::l,h=>by
  simp only [gV]at h
  split at h
  ·rename_i e;cases h;exact⟨List.mem_cons_self,by simpa using e⟩
  ·have:=nQ h;exact⟨List.mem_cons_of_mem _ this.1,this.2⟩
mutual
theorem Hn (deep bD:Int) (aQ:Bool) (out:List It) : ∀ s:Sm,∃ e,fC deep bD aQ out s=out++e
 | ⟨id,kind,labels,name,proc,x,has,args,aZ,e⟩=>by
  simp only [fC]
  split
  ·obtain⟨e1,h1⟩:=oy (deep+1) id false (out++ [⟨⟨id,kind,labels,name,proc,x,has,args,aZ,e⟩,deep,bD,aQ⟩]) aZ
   obtain⟨e2,h2⟩:=oy (deep+1) id true (cw (deep+1) id false (out++ [⟨⟨id,kind,labels,name,proc,x,has,args,aZ,e⟩,deep,bD,aQ⟩]) aZ) e
   rw [h2,h1]
   exact⟨_,by rw [List.append_assoc,List.append_assoc]⟩
  ·exact⟨_,rfl⟩
theorem oy (deep bD:Int) (aQ:Bool) (out:List It) : ∀ l:List Sm,∃ e,cw deep bD aQ out l=out++e
 | []=>⟨[],by simp [cw]⟩
 | s::l=>by
  simp only [cw]
  split
  ·obtain⟨e1,h1⟩:=Hn deep bD aQ out s
   obtain⟨e2,h2⟩:=oy deep bD aQ (fC deep bD aQ out s) l
   rw [h2,h1]
   exact⟨_,by rw [List.append_assoc]⟩
  ·exact⟨[],by simp⟩
end
mutual
theorem Ho (deep bD:Int) (aQ:Bool) (out:List It) : ∀ s:Sm,(fC deep bD aQ out s).length≤200→(∀ i∈fC deep bD aQ out s,i.deep≤12)→(fC deep bD aQ out s).map It.s=out.map It.s++s.pre
 | ⟨id,kind,labels,name,proc,x,has,args,aZ,e⟩,h1,h2=>by
  simp only [fC,Sm.pre]at h1 h2 ⊢
  by_cases hd:deep≤12
  ·simp only [hd,decide_true,if_true]at h1 h2 ⊢
   obtain⟨e2,g2⟩:=oy (deep+1) id true (cw (deep+1) id false (out++ [⟨⟨id,kind,labels,name,proc,x,has,args,aZ,e⟩,deep,bD,aQ⟩]) aZ) e
   have k1:(cw (deep+1) id false (out++ [⟨⟨id,kind,labels,name,proc,x,has,args,aZ,e⟩,deep,bD,aQ⟩]) aZ).length≤200:=by
    rw [g2,List.length_append]at h1;omega
   have k2 : ∀ i∈cw (deep+1) id false (out++ [⟨⟨id,kind,labels,name,proc,x,has,args,aZ,e⟩,deep,bD,aQ⟩]) aZ,i.deep≤12:=fun i m=>h2 i (by rw [g2];exact List.mem_append_left _ m)
   rw [qz (deep+1) id true _ e h1 h2,qz (deep+1) id false _ aZ k1 k2]
   simp
  ·simp only [hd,decide_false,Bool.false_eq_true,if_false]at h1 h2
   exact absurd (h2 _ (List.mem_append_right _ (List.mem_singleton.2 rfl))) (by simpa using hd)
theorem qz (deep bD:Int) (aQ:Bool) (out:List It) : ∀ l:List Sm,(cw deep bD aQ out l).length≤200→(∀ i∈cw deep bD aQ out l,i.deep≤12)→(cw deep bD aQ out l).map It.s=out.map It.s++Sm.fb l
 | [],h1,h2=>by simp [cw,Sm.fb]
 | s::l,h1,h2=>by
  simp only [cw,Sm.fb]at h1 h2 ⊢
  by_cases hc:(out.length:Int)≤200
  ·simp only [hc,decide_true,if_true]at h1 h2 ⊢
   obtain⟨e2,g2⟩:=oy deep bD aQ (fC deep bD aQ out s) l
   have k1:(fC deep bD aQ out s).length≤200:=by rw [g2,List.length_append]at h1;omega
   have k2 : ∀ i∈fC deep bD aQ out s,i.deep≤12:=fun i m=>h2 i (by rw [g2];exact List.mem_append_left _ m)
   rw [qz deep bD aQ _ l h1 h2,Ho deep bD aQ out s k1 k2]
   simp
  ·simp only [hc,decide_false,Bool.false_eq_true,if_false]at h1
   omega
end
theorem Bo : ∀ (l:List Pc) (out:List It),(allM out l).length≤200→(∀ i∈allM out l,i.deep≤12)→(∀ f∈l,f.flat.map It.s=Sm.fb f.body)∧(allM out l).map It.s=out.map It.s++(l.map fun f=>Sm.fb f.body).flatten
 | [],out,h1,h2=>⟨fun f m=>(by cases m),by simp [allM]⟩
 | f::l,out,h1,h2=>by
  simp only [allM]at h1 h2 ⊢
  by_cases hc:(((out++f.flat).length:Nat):Int) > 200
  ·simp only [hc,decide_true,if_true]at h1;omega
  ·simp only [hc,decide_false,Bool.false_eq_true,if_false]at h1 h2 ⊢
   obtain⟨k1,k2⟩:=Bo l (out++f.flat) h1 h2
   have JW : ∀ (l:List Pc) (out:List It),∃ e,allM out l=out++e:=by
    intro l
    induction l with
    | nil=>intro out;exact⟨[],by simp [allM]⟩
    | cons g l ih=>
     intro out
     simp only [allM]
     split
     ·exact⟨_,rfl⟩
     ·obtain⟨e,h⟩:=ih (out++g.flat);exact⟨g.flat++e,by rw [h];simp⟩
   obtain⟨e,he⟩:=JW l (out++f.flat)
   have k3:f.flat.map It.s=Sm.fb f.body:=by
    have:=qz 1 0 false [] f.body (by
     have:f.flat.length≤200:=by simp only [List.length_append]at hc;omega
     exact this) (fun i m=>h2 i (by rw [he];exact List.mem_append_left _ (List.mem_append_right _ m)))
    simpa [Pc.flat]using this
   refine⟨fun g m=> ?_, ?_⟩
   ·rcases List.mem_cons.1 m with rfl | m
    ·exact k3
    ·exact k1 g m
   ·rw [k2];simp [k3]
theorem ug : ∀ (l:List It) (n:Nat),It.ej n l=true→(∀ i∈l,i.deep≤12)∧∀ (j:Nat) (i:It),l[j]? = some i→i.s.id=((n+j+1:Nat):Int)
 | [],n,h=>⟨fun i m=>(by cases m),fun j i h=>by simp at h⟩
 | a::l,n,h=>by
  simp only [It.ej]at h
  split at h
  ·cases h
  ·rename_i c
   simp only [Bool.or_eq_true,not_or,bne_iff_ne,ne_eq,Decidable.not_not,decide_eq_true_eq,Int.not_lt,gt_iff_lt]at c
   obtain⟨k1,k2⟩:=ug l (n+1) h
   refine⟨fun i m=> ?_,fun j i hj=> ?_⟩
   ·rcases List.mem_cons.1 m with rfl | m
    ·exact c.1.2
    ·exact k1 i m
   ·cases j with
    | zero=>simp at hj;subst hj;rw [c.1.1]
    | succ j=>simp at hj;rw [k2 j i hj];congr 1;omega
theorem x4 {p:Pg} (h:p.may=true):p.all.length≤200∧It.ej 0 p.all=true:=by
 unfold Pg.may at h
 split at h
 ·cases h
 ·split at h
  ·cases h
  ·split at h
   ·cases h
   ·rename_i c
    exact⟨by simp only [decide_eq_true_eq,Int.not_lt,gt_iff_lt]at c;omega,h⟩
theorem nR {p:Pg} (h:p.may=true):(∀ f∈p.procs,f.flat.map It.s=Sm.fb f.body)∧p.all.map It.s=p.pre:=by
 obtain⟨h1,h2⟩:=x4 h
 have:=Bo p.procs [] h1 (ug _ 0 h2).1
 simpa [Pg.pre,Pg.all]using this
theorem Bp {p:Pg} (h:p.may=true) {i:Nat} {v:Sm} (hv:p.pre[i]? = some v):v.id=((i+1:Nat):Int):=by
 rw [← (nR h).2,List.getElem?_map,Option.map_eq_some_iff]at hv
 obtain⟨it,h1,rfl⟩:=hv
 have:=(ug _ 0 (x4 h).2).2 i it h1
 rw [this];congr 1;omega
end Go.Abs

/-! Sc4 -/

namespace Go.Abs
set_option maxRecDepth 8000
open Go.Proofs
structure Pg.kL (p:Pg):Prop where
 O5:p.zR
 sz:p.size≤900000
mutual
theorem O6 : ∀ s:Sm,s.qt→s.size<1000000→∀ v∈s.pre,v.ko∧v.oN
 | ⟨id,kind,labels,name,proc,x,has,args,aZ,aQ⟩,h,hs,v,m=>by
  simp only [Sm.qt]at h
  simp only [Sm.size]at hs
  simp only [Sm.pre,List.mem_cons,List.mem_append]at m
  rcases m with rfl | m | m
  ·exact⟨⟨h.1.xt,fun a ha=>(h.1.arg a ha).2.1,by dsimp only;omega⟩,h.1⟩
  ·exact uM aZ h.2.1 (by omega) v m
  ·exact uM aQ h.2.2 (by omega) v m
theorem uM : ∀ l:List Sm,Sm.gB l→Sm.aS l<1000000→∀ v∈Sm.fb l,v.ko∧v.oN
 | [],h,hs,v,m=>by simp [Sm.fb]at m
 | s::l,h,hs,v,m=>by
  simp only [Sm.gB]at h
  simp only [Sm.aS]at hs
  simp only [Sm.fb,List.mem_append]at m
  rcases m with m | m
  ·exact O6 s h.1 (by omega) v m
  ·exact uM l h.2 (by omega) v m
end
theorem Pg.kL.said {p:Pg} (h:p.kL) {f:Pc} (hf:f∈p.procs) : ∀ v∈Sm.fb f.body,v.ko:=fun v m=>by
 have h1:=Pc.b7 hf
 have h2:=h.sz
 simp only [Pg.size]at h2
 simp only [Pc.size]at h1
 exact(uM f.body (h.O5.body f hf) (by omega) v m).1
theorem Pg.kL.small {p:Pg} (h:p.kL) {f:Pc} (hf:f∈p.procs):f.Small p:=by
 have h1:=Pc.b7 hf
 have h2:=h.sz
 simp only [Pg.size]at h2
 simp only [Pc.size]at h1
 exact⟨by omega,by omega,by omega⟩
theorem Pg.kL.procs {p:Pg} (h:p.kL):p.procs.length≤900000∧Pc.aS p.procs≤900000∧p.globals.length≤900000:=by
 have h2:=h.sz
 have h3:=Pc.cZ p.procs
 simp only [Pg.size]at h2
 omega
def Pg.pn (p:Pg):List aD:=p.procs.map (·.name)
def uh (p:Pg) (f:Pc) (procs:List aD):List Sm→Option Sm
 | []=>none
 | v::l=>if v.known p f procs then uh p f procs l else some v
def pQ (p:Pg) (procs:List aD):List Pc→Int×Int
 | []=>(0,0)
 | f::l=>if eQ (p.globals++f.own)then(5,0)else match uh p f procs (Sm.fb f.body)with | some v=>(5,v.id) | none=>pQ p procs l
def Pg.rH (p:Pg):Bool:=match p.find mT with | none=>true | some m=>decide ((m.params.length:Int) > 0)
def Pg.scope (p:Pg):Int×Int:=
 if p.may then if eQ p.globals || (eQ p.pn || p.rH)then(5,0)else pQ p p.pn p.procs else(1,0)
theorem JX (p:Pg) (hl:p.globals.length<1000000) (n:aD):aI Try.prog kJ ([.str n]++ [.ptr 0 0]) ⟨[bN p],[]⟩ (.bool (dG p.globals n)) ⟨[bN p],[]⟩:=by
 show aI Try.prog kJ [.str n, .ptr 0 0] _ _ _
 have og:=gu (l:=p.globals) (by omega) n
 refine aI.go uR rfl fun B Q hB hQ=> ?_
 have⟨hD,hJ,hP,hY⟩:=bZ
 repeat' (first
 | simp only [go_sem,hD,hJ,hP,hY]
 | (with_reducible refine CU (og _ _) ?_)
 | (with_reducible refine aJ hQ ?_;simp only [ay,az,Option.some.injEq,exists_eq_left',go_sem,hD,hJ,hP,hY];repeat' (first | exact Ok.out | with_reducible refine aM ?_ ?_ | (simp;done))))
theorem Rb (n m:Nat) (p:Pg):D.fk n m (iF p)=iF p:=fw n m _ (xT p)
attribute [go_sem] Rb
theorem Mv {p:Pg} {f:Pc} {procs:List aD} {v:Sm} (hs:f.Small p) (yL:procs.length<1000000) (hv:v.ko) (g:Tag) (s:St):aI Try.prog lQ [.agg (bN p), .agg (bL f), .slice g 1 (procs.map encStr), .agg (bd v)] s (.bool (v.known p f procs)) s:=
 dA.Au (.cons (Wk.refl _) (.cons (Wk.refl _) (.cons (Wk.shared g 1 _) (jB.refl _)))) (Mu hs yL hv s)
theorem vL {p:Pg} (h:p.kL) (s:St):aI Try.prog kl [.agg (bN p)] s (.agg [.int .i64 p.scope.1, .int .i64 p.scope.2]) s:=by
 refine aI.pure ?_ (by simp [D.bE,D.ok,jh]) rfl s
 have hm:=fun s=>OV h.O5 s
 simp only [CM]at hm
 obtain⟨rl,qu,vg⟩:=h.procs
 have c7:=fun s=>zO (p:=p) (by omega) s
 have lp:=fun s=>vK (l:=p.globals) (by omega) .shared s
 have hpn:p.pn.length=p.procs.length:=by simp [Pg.pn]
 have wq:=fun g s=>vK (l:=p.pn) (by omega) g s
 have hix:=fun g s=>(CG (l:=p.pn) (by omega) mT s).CH (Wk.shared g 1 (p.pn.map encStr))
 have vM:=fun g s=>(show aI Try.prog fL [.slice g 1 (p.pn.map encStr), .str [109,97,105,110]] s (.int .i64 (kB mT 0 p.pn)) s from hix g s)
 generalize hR:p.scope=R
 simp only [Pg.scope]at hR
 unfold S0
 rcases Bool.eq_false_or_eq_true p.may with hb | hb
 case inr=>
  simp only [hb]at hm
  simp only [hb,Bool.false_eq_true,if_false]at hR
  subst hR
  refine aI.go qm rfl fun B Q hB hQ=> ?_
  have⟨hD,hJ,hP,hY⟩:=bZ
  repeat' (first
 | simp only [go_sem,hD,hJ,hP,hY]
 | (with_reducible refine CU (hm _) ?_)
 | (with_reducible refine aJ hQ ?_;simp only [ay,az,Option.some.injEq,exists_eq_left',go_sem,hD,hJ,hP,hY];repeat' (first | exact Ok.out | with_reducible refine aM ?_ ?_ | (simp;done))))
 simp only [hb]at hm
 simp only [hb,if_true]at hR
 refine aI.go qm rfl fun B Q hB hQ=> ?_
 have⟨hD,hJ,hP,hY⟩:=bZ
 repeat' (first
 | simp only [go_sem,hD,hJ,hP,hY]
 | (with_reducible refine CU (hm _) ?_)
 | (with_reducible refine aJ hQ ?_;simp only [ay,az,Option.some.injEq,exists_eq_left',go_sem,hD,hJ,hP,hY];repeat' (first | exact Ok.out | with_reducible refine aM ?_ ?_ | (simp;done))))
 refine bp.pB 3 1 rfl ?_
 simp only [go_sem,hD,hJ,hP,hY]
 refine dD 2 1 (bp.ind (ι:=List Pc×Nat×List aD×Nat) (fun i=>p.procs.drop i.2.1=i.1∧i.2.2.1++i.1.map (·.name)=p.pn∧i.2.2.2=i.2.2.1.length) (fun i=>i.1.length)
  (fun i=> [(1, .ptr 0 0),(2, .ptr 1 0),(3, .slice (.tok 0) 1 (i.2.2.1.map encStr)),(18, .slice .shared 5 (p.procs.map bL)),(19, .int .i64 (p.procs.length:Int)),(20, .int .i64 (i.2.1:Int))]) (fun i=>⟨[bN p,[.int .i64 0, .int .i64 0]],[some i.2.2.2]⟩) ?_ (p.procs,0,[],0) ⟨rfl,rfl,rfl⟩)
 rintro⟨rest,k,out,n⟩ ⟨h1,h2,h3⟩ IH
 dsimp only at h1 h2 h3
 subst h3
 have hlo:out.length+rest.length≤900000:=by
  have:=congrArg List.length h2
  simp only [List.length_append,List.length_map]at this
  omega
 cases rest with
 | cons a rest=>
  obtain⟨hJ,g2,hD,g4⟩:=drop_cons h1
  have bq:k<4611686018427387904:=by omega
  have hP:(out.length+1)*17≤bF:=by unfold bF;omega
  repeat' (first
 | simp only [go_sem,hD,hJ,hP,hY]
 | (with_reducible refine aJ hQ ?_;simp only [ay,az,Option.some.injEq,exists_eq_left',go_sem,hD,hJ,hP,hY];repeat' (first | exact Ok.out | with_reducible refine aM ?_ ?_ | (simp;done))))
  refine dn 2 1 ?_ ?_ (IH (rest,k+1,out++ [a.name],out.length+1) ⟨g2,by rw [← h2];simp,by simp⟩ (Nat.lt_succ_self _))
  ·(simp only [go_sem,hD,hJ,hP,hY,aF bq,List.map_append,List.map_cons,List.map_nil,encStr];try exact bo)
  ·(simp only [go_sem,hD,hJ,hP,hY,aF bq,List.map_append,List.map_cons,List.map_nil,encStr];try exact bo)
 | nil=>
  have hD:=drop_nil h1
  simp only [List.map_nil,List.append_nil]at h2
  subst h2
  rcases Bool.eq_false_or_eq_true (eQ p.globals)with b1 | b1
  ·simp only [b1,Bool.true_or,if_true]at hR
   subst hR
   repeat' (first
 | simp only [go_sem,hD,hJ,hP,hY,b1]
 | (with_reducible refine CU (vM _ _) ?_)
 | (with_reducible refine CU (lp _) ?_)
 | (with_reducible refine CU (wq _ _) ?_)
 | (with_reducible refine aJ hQ ?_;simp only [ay,az,Option.some.injEq,exists_eq_left',go_sem,hD,hJ,hP,hY];repeat' (first | exact Ok.out | with_reducible refine aM ?_ ?_ | (simp;done))))
  rcases Bool.eq_false_or_eq_true (eQ p.pn)with b2 | b2
  ·simp only [b1,b2,Bool.true_or,Bool.or_true,if_true]at hR
   subst hR
   repeat' (first
 | simp only [go_sem,hD,hJ,hP,hY,b1,b2]
 | (with_reducible refine CU (vM _ _) ?_)
 | (with_reducible refine CU (lp _) ?_)
 | (with_reducible refine CU (wq _ _) ?_)
 | (with_reducible refine aJ hQ ?_;simp only [ay,az,Option.some.injEq,exists_eq_left',go_sem,hD,hJ,hP,hY];repeat' (first | exact Ok.out | with_reducible refine aM ?_ ?_ | (simp;done))))
  rcases Bn mT p.procs 0 with ⟨e1,e2⟩ | ⟨m,j,e1,e2,e3⟩
  ·have b3:p.rH=true:=by unfold Pg.rH Pg.find;rw [e1]
   have hi:kB mT 0 p.pn = -1:=e2
   simp only [b1,b2,b3,Bool.or_true,if_true]at hR
   subst hR
   simp only [hi]at vM
   have d1:decide ((-1:Int)<0)=true:=by decide
   repeat' (first
 | simp only [go_sem,hD,hJ,hP,hY,b1,b2,d1]
 | (with_reducible refine CU (vM _ _) ?_)
 | (with_reducible refine CU (lp _) ?_)
 | (with_reducible refine CU (wq _ _) ?_)
 | (with_reducible refine aJ hQ ?_;simp only [ay,az,Option.some.injEq,exists_eq_left',go_sem,hD,hJ,hP,hY];repeat' (first | exact Ok.out | with_reducible refine aM ?_ ?_ | (simp;done))))
  have hi:kB mT 0 p.pn=((j:Nat):Int):=by rw [show p.pn=p.procs.map (·.name)from rfl];simpa using e3
  simp only [hi]at vM
  have d1:decide (((j:Nat):Int)<0)=false:=by simp
  have hj:j<p.procs.length:=(List.getElem?_eq_some_iff.1 e2).1
  have b3:p.rH=decide ((m.params.length:Int) > 0):=by unfold Pg.rH Pg.find;rw [e1]
  rw [b3]at hR
  rcases Bool.eq_false_or_eq_true (decide ((m.params.length:Int) > 0))with b4 | b4
  ·simp only [b1,b2,b4,Bool.or_true,if_true]at hR
   subst hR
   repeat' (first
 | simp only [go_sem,hD,hJ,hP,hY,b1,b2,d1,e2,b4]
 | (with_reducible refine CU (vM _ _) ?_)
 | (with_reducible refine CU (lp _) ?_)
 | (with_reducible refine CU (wq _ _) ?_)
 | (with_reducible refine aJ hQ ?_;simp only [ay,az,Option.some.injEq,exists_eq_left',go_sem,hD,hJ,hP,hY];repeat' (first | exact Ok.out | with_reducible refine aM ?_ ?_ | (simp;done))))
  simp only [b1,b2,b4,Bool.or_false,Bool.false_eq_true,if_false]at hR
  repeat' (first
 | simp only [go_sem,hD,hJ,hP,hY,b1,b2,d1,e2,b4]
 | (with_reducible refine CU (vM _ _) ?_)
 | (with_reducible refine CU (lp _) ?_)
 | (with_reducible refine CU (wq _ _) ?_)
 | (with_reducible refine CU (c7 _) ?_)
 | (with_reducible refine aJ hQ ?_;simp only [ay,az,Option.some.injEq,exists_eq_left',go_sem,hD,hJ,hP,hY];repeat' (first | exact Ok.out | with_reducible refine aM ?_ ?_ | (simp;done))))
  refine dD 2 1 (bp.ind (ι:=List Pc×Nat) (fun i=>p.procs.drop i.2=i.1∧pQ p p.pn i.1=R) (fun i=>i.1.length)
   (fun i=> [(1, .ptr 0 0),(2, .ptr 1 0),(3, .slice (.tok 0) 1 (p.pn.map encStr)),(7, .cV (iF p) 0),(57, .slice .shared 5 (p.procs.map bL)),(58, .int .i64 (p.procs.length:Int)),(59, .int .i64 (i.2:Int))]) (fun i=>⟨[bN p,[.int .i64 0, .int .i64 0]],[some p.pn.length]⟩) ?_ (p.procs,0) ⟨rfl,hR⟩)
  clear IH h1 hD hR
  rintro⟨rest,k⟩ ⟨h1,hR⟩ IH
  dsimp only at h1 hR
  cases rest with
  | nil=>
   have hD:=drop_nil h1
   simp only [pQ]at hR
   subst hR
   repeat' (first
 | simp only [go_sem,hD,hJ,hP,hY]
 | (with_reducible refine aJ hQ ?_;simp only [ay,az,Option.some.injEq,exists_eq_left',go_sem,hD,hJ,hP,hY];repeat' (first | exact Ok.out | with_reducible refine aM ?_ ?_ | (simp;done))))
  | cons f rest=>
   obtain⟨hJ,g2,hD,g4⟩:=drop_cons h1
   have bq:k<4611686018427387904:=by omega
   have Lk:=List.mem_of_getElem? hJ
   have yN:=h.small Lk
   have Hp:=fun s=>Ra (f:=f) yN.par yN.vars s
   have ln:f.own.length<4611686018427387904:=by have h1:=yN.par;have h2:=yN.vars;unfold Pc.own Pc.w6;simp;omega
   have O7:=fun s=>vK (l:=f.own) ln .shared s
   have Bq:=fun {s:St} {o:Nat} (ho:s.au[o]? = some (bN p))=>rF (l:=f.own) ln (f:=kJ) (row:=bN p) (b:=dG p.globals) (jh p) (by with_unfolding_all rfl) (fun x _=>JX p yN.Bf x) ho
   have JY:=fun {s:St} {o:Nat} (ho:s.au[o]? = some (bN p))=>(show aI Try.prog eh [.slice .shared 1 (f.own.map encStr), .eW 35 [.ptr o 0]] s (.bool (f.own.any (dG p.globals))) s from Bq ho)
   simp only [pQ,Hm,b1,Bool.false_or]at hR
   rcases Bool.eq_false_or_eq_true (eQ f.own)with c1 | c1
   ·simp only [c1,Bool.true_or,if_true]at hR
    subst hR
    repeat' (first
 | simp only [go_sem,hD,hJ,hP,hY,c1]
 | (with_reducible refine CU (Hp _) ?_)
 | (with_reducible refine CU (O7 _) ?_)
 | (with_reducible refine CU (JY (by with_unfolding_all rfl)) ?_)
 | (with_reducible refine aJ hQ ?_;simp only [ay,az,Option.some.injEq,exists_eq_left',go_sem,hD,hJ,hP,hY];repeat' (first | exact Ok.out | with_reducible refine aM ?_ ?_ | (simp;done))))
   rcases Bool.eq_false_or_eq_true (f.own.any (dG p.globals))with c2 | c2
   ·simp only [c1,c2,Bool.false_or,if_true]at hR
    subst hR
    repeat' (first
 | simp only [go_sem,hD,hJ,hP,hY,c1,c2]
 | (with_reducible refine CU (Hp _) ?_)
 | (with_reducible refine CU (O7 _) ?_)
 | (with_reducible refine CU (JY (by with_unfolding_all rfl)) ?_)
 | (with_reducible refine aJ hQ ?_;simp only [ay,az,Option.some.injEq,exists_eq_left',go_sem,hD,hJ,hP,hY];repeat' (first | exact Ok.out | with_reducible refine aM ?_ ?_ | (simp;done))))
   simp only [c1,c2,Bool.or_self,Bool.false_eq_true,if_false]at hR
   obtain⟨it,rG,Hq⟩:=JD hJ (by omega)
   rw [← rG]at hR
   have O8:it.length≤900000:=by
    have e:=congrArg List.length rG
    have e2:=(mb p).2 k f hJ
    obtain⟨a,b,e',_,_,e3,e4⟩:=e2
    have e5:=mc p
    have e6:=congrArg List.length e3
    rw [e4]at e5
    simp only [List.length_map,List.length_append]at e e5 e6
    omega
   repeat' (first
 | simp only [go_sem,hD,hJ,hP,hY,c1,c2]
 | (with_reducible refine CU (Hp _) ?_)
 | (with_reducible refine CU (O7 _) ?_)
 | (with_reducible refine CU (JY (by with_unfolding_all rfl)) ?_)
 | (with_reducible refine CU (Hq _) ?_)
 | (with_reducible refine aJ hQ ?_;simp only [ay,az,Option.some.injEq,exists_eq_left',go_sem,hD,hJ,hP,hY];repeat' (first | exact Ok.out | with_reducible refine aM ?_ ?_ | (simp;done))))
   obtain⟨q,hq⟩ : ∃ q,uh p f p.pn (it.map Im.s)=q:=⟨_,rfl⟩
   rw [hq]at hR
   refine dD 3 1 (bp.ind (ι:=List Im×Nat) (fun i=>it.drop i.2=i.1∧uh p f p.pn (i.1.map Im.s)=q) (fun i=>i.1.length)
    (fun i=> [(1, .ptr 0 0),(2, .ptr 1 0),(3, .slice (.tok 0) 1 (p.pn.map encStr)),(7, .cV (iF p) 0),(9, .ptr 2 0),(57, .slice .shared 5 (p.procs.map bL)),(58, .int .i64 (p.procs.length:Int)),(59, .int .i64 (k:Int)),(76, .slice .shared 17 (it.map ef)),(77, .int .i64 (it.length:Int)),(78, .int .i64 (i.2:Int))]) (fun i=>⟨[bN p,[.int .i64 0, .int .i64 0],bL f],[some p.pn.length]⟩) ?_ (it,0) ⟨rfl,hq⟩)
   rintro⟨E2,n⟩ ⟨j1,j2⟩ Ln
   dsimp only at j1 j2
   have sJ:=hD
   cases E2 with
   | nil=>
    have Ua:=drop_nil j1
    simp only [List.map_nil,uh]at j2
    subst j2
    simp only at hR
    repeat' (first
 | simp only [go_sem,hD,hJ,hP,hY,Ua]
 | (with_reducible refine aJ hQ ?_;simp only [ay,az,Option.some.injEq,exists_eq_left',go_sem,hD,hJ,hP,hY];repeat' (first | exact Ok.out | with_reducible refine aM ?_ ?_ | (simp;done))))
    refine dn 2 1 ?_ ?_ (IH (rest,k+1) ⟨g2,hR⟩ (Nat.lt_succ_self _))
    ·(simp only [go_sem,hD,hJ,hP,hY,aF bq];try exact bo)
    ·(simp only [go_sem,hD,hJ,hP,hY,aF bq];try exact bo)
   | cons i E2=>
    obtain⟨mU,CO,ui,R3⟩:=drop_cons j1
    have rI:n<4611686018427387904:=by omega
    have yO:i.s∈Sm.fb f.body:=by rw [← rG];exact List.mem_map_of_mem (List.mem_of_getElem? mU)
    have R4:=Mv (v:=i.s) yN (procs:=p.pn) (by omega) (h.said Lk _ yO)
    simp only [List.map_cons,uh]at j2
    rcases Bool.eq_false_or_eq_true (i.s.known p f p.pn)with c3 | c3
    ·simp only [c3,if_true]at j2
     repeat' (first
 | simp only [go_sem,hD,hJ,hP,hY,ui,mU,c3]
 | (with_reducible refine CU (R4 _ _) ?_)
 | (with_reducible refine aJ hQ ?_;simp only [ay,az,Option.some.injEq,exists_eq_left',go_sem,hD,hJ,hP,hY];repeat' (first | exact Ok.out | with_reducible refine aM ?_ ?_ | (simp;done))))
     refine dn 3 1 ?_ ?_ (Ln (E2,n+1) ⟨CO,j2⟩ (Nat.lt_succ_self _))
     ·(simp only [go_sem,hD,hJ,hP,hY,aF rI];try exact bo)
     ·(simp only [go_sem,hD,hJ,hP,hY,aF rI];try exact bo)
    ·simp only [c3,Bool.false_eq_true,if_false]at j2
     subst j2
     simp only at hR
     subst hR
     repeat' (first
 | simp only [go_sem,hD,hJ,hP,hY,ui,mU,c3]
 | (with_reducible refine CU (R4 _ _) ?_)
 | (with_reducible refine aJ hQ ?_;simp only [ay,az,Option.some.injEq,exists_eq_left',go_sem,hD,hJ,hP,hY];repeat' (first | exact Ok.out | with_reducible refine aM ?_ ?_ | (simp;done))))
end Go.Abs

/-! Rng -/

namespace Go.Abs
mutual
def Ex.mV:Ex→Prop
 | ⟨_,n,_,kids⟩=>n≤9223372036854775807∧Ex.qY kids
def Ex.qY:List Ex→Prop
 | []=>True
 | x::l=>x.mV∧Ex.qY l
end
end Go.Abs

/-! FineM -/

namespace Go.Abs
mutual
def Sm.mV:Sm→Prop
 | ⟨_,_,_,_,_,x,_,args,aZ,aQ⟩=>x.mV∧(∀ a∈args,a.x.mV)∧Sm.qY aZ∧Sm.qY aQ
def Sm.qY:List Sm→Prop
 | []=>True
 | s::l=>s.mV∧Sm.qY l
end
def Pg.mV (p:Pg):Prop:=∀ f∈p.procs,Sm.qY f.body
theorem yP {f:Pc} : ∀ {l:List Pc} {n:Nat},Pc.dv n l=true→f∈l→(isName f.name=true∧dk f.vars=true∧dk f.fin=true∧Pm.ej f.params=true)∧∃ n,(Sm.eD 1 n f.body).1=true
 | g::l,n,h,m=>by
  simp only [Pc.dv]at h
  split at h
  ·cases h
  rename_i c1
  split at h
  ·cases h
  rename_i c2
  split at h
  ·cases h
  rename_i c3
  simp only [Bool.or_eq_true,Bool.not_eq_true',not_or,Bool.not_eq_false]at c1 c2 c3
  rcases List.mem_cons.1 m with rfl | m
  ·exact⟨⟨c1.1.1.2,c1.1.2,c1.2,c2⟩,n,c3⟩
  ·exact yP h m
mutual
theorem E3 : ∀ (s:Sm) (nest:Int) (n:Nat),(Sm.lC nest n s).1=true→s.size<4611686018427387000→s.qt
 | ⟨id,kind,labels,name,proc,x,has,args,aZ,aQ⟩,nest,n,hm,hs=>by
  obtain⟨_,_,h1,h2,h3,_⟩:=yJ hm
  rw [vJ]
  rw [(ox h2).2]at h2
  rw [(ox h3).2]at h3
  refine⟨Bi h1 hs,o9 aZ _ _ h2 ?_,o9 aQ _ _ h3 ?_⟩ <;> simp only [Sm.size]at hs <;> omega
theorem o9 : ∀ (l:List Sm) (nest:Int) (n:Nat),(Sm.dv nest n l).1=true→Sm.aS l<4611686018427387000→Sm.gB l
 | [],_,_,_,_=>by simp only [Sm.gB]
 | s::l,nest,n,hm,hs=>by
  simp only [Sm.dv]at hm
  simp only [Sm.aS]at hs
  split at hm
  ·cases hm
  rename_i hc
  simp only [Bool.not_eq_true',Bool.not_eq_false]at hc
  exact⟨E3 s nest n hc (by omega),o9 l nest _ hm (by omega)⟩
end
theorem yQ {p:Pg} (h:p.may=true) (hs:p.size<4611686018427387000):p.zR:=by
 have hf:=JQ h hs
 rw [← CM]at h
 unfold Pg.xZ at h
 split at h
 ·cases h
 refine⟨hf.sz,hf.Bf,hf.lR,fun f m=> ?_⟩
 obtain⟨_,n,e⟩:=yP h m
 rw [(ox e).2]at e
 have:=Pc.b7 m
 simp only [Pg.size]at hs
 exact o9 f.body 1 n e (by unfold Pc.size at this;omega)
end Go.Abs

/-! Sc5 -/

namespace Go.Abs
open Go.Proofs
theorem JZ (x:It):(dR x)[1]? = some (.int .i64 x.s.kind):=nd rfl
theorem J0 (x:It):(dR x)[3]? = some (.str x.s.name):=nd rfl
theorem J1 (x:It):(dR x)[4]? = some (.str x.s.proc):=nd rfl
theorem Mw (x:It):List.take 16 (dR x)=dR x:=nd rfl
attribute [go_sem] JZ J0 J1 Mw
end Go.Abs

/-! Ar1 -/

namespace Go.Abs
set_option maxRecDepth 8000
open Go.Proofs
def w7:List Pm→List Ar→Bool
 | [],_=>true
 | _,[]=>true
 | a::l,b::m=>if a.ref==b.ref then w7 l m else false
def w8 (l:List Pm) (m:List Ar):Bool:=if(l.length:Int)==(m.length:Int)then w7 l m else false
def Sm.j6 (p:Pg) (v:Sm):Bool:=v.kind==4 && match p.find v.proc with | none=>false | some q=>w8 q.params v.args
theorem Pa {l:List Pm} {m:List Ar} (hl:l.length<1000000000) (hm:m.length<1000000000) (s:St):aI Try.prog pG [.slice .shared 2 (l.map fq), .slice .shared 6 (m.map dh)] s (.bool (w8 l m)) s:=by
 refine aI.pure ?_ (by simp [D.bE,D.ok,Tag.ok,QI,zL]) rfl s
 generalize h:w8 l m=q
 simp only [w8]at h
 unfold S0
 have b0:((l.length:Int) != (m.length:Int)) = !((l.length:Int)==(m.length:Int)):=rfl
 rcases Bool.eq_false_or_eq_true ((l.length:Int)==(m.length:Int))with b1 | b1
 case inr=>
  rw [b1]at b0
  simp only [b1,Bool.false_eq_true,if_false]at h
  subst h
  refine aI.go rB rfl fun B Q hB hQ=> ?_
  have⟨hD,hJ,hP,hY⟩:=bZ
  repeat' (first
 | simp only [go_sem,hD,hJ,hP,hY,b0,Bool.not_false]
 | (with_reducible refine aJ hQ ?_;simp only [ay,az,Option.some.injEq,exists_eq_left',go_sem,hD,hJ,hP,hY];repeat' (first | exact Ok.out | with_reducible refine aM ?_ ?_ | (simp;done))))
 rw [b1]at b0
 simp only [b1,if_true]at h
 have hlm:l.length=m.length:=by have:=eq_of_beq b1;omega
 refine aI.go rB rfl fun B Q hB hQ=> ?_
 have⟨hD,hJ,hP,hY⟩:=bZ
 repeat' (first
 | simp only [go_sem,hD,hJ,hP,hY,b0,Bool.not_true]
 | (with_reducible refine aJ hQ ?_;simp only [ay,az,Option.some.injEq,exists_eq_left',go_sem,hD,hJ,hP,hY];repeat' (first | exact Ok.out | with_reducible refine aM ?_ ?_ | (simp;done))))
 refine dD 0 0 (bp.ind (ι:=List Pm×List Ar×Nat) (fun i=>l.drop i.2.2=i.1∧m.drop i.2.2=i.2.1∧w7 i.1 i.2.1=q) (fun i=>i.1.length)
  (fun i=> [(1, .slice .shared 6 (m.map dh)),(12, .slice .shared 2 (l.map fq)),(13, .int .i64 (l.length:Int)),(14, .int .i64 (i.2.2:Int))]) (fun i=>⟨[],[]⟩) ?_ (l,m,0) ⟨rfl,rfl,h⟩)
 rintro⟨r1,r2,k⟩ ⟨h1,h2,h⟩ IH
 dsimp only at h1 h2 h
 cases r1 with
 | nil=>
  have hD:=drop_nil h1
  simp only [w7]at h
  subst h
  repeat' (first
 | simp only [go_sem,hD,hJ,hP,hY]
 | (with_reducible refine aJ hQ ?_;simp only [ay,az,Option.some.injEq,exists_eq_left',go_sem,hD,hJ,hP,hY];repeat' (first | exact Ok.out | with_reducible refine aM ?_ ?_ | (simp;done))))
 | cons a r1=>
  obtain⟨hJ,g2,hD,g4⟩:=drop_cons h1
  cases r2 with
  | nil=>have:=List.drop_eq_nil_iff.1 h2;omega
  | cons b r2=>
   obtain⟨Lo,b2,E4,_⟩:=drop_cons h2
   have bq:k<4611686018427387904:=by omega
   simp only [w7]at h
   have w1:(true==true)=true:=rfl
   have w2:(false==false)=true:=rfl
   have w3:(true==false)=false:=rfl
   have w4:(false==true)=false:=rfl
   have v1:(true != true)=false:=rfl
   have v2:(false != false)=false:=rfl
   have v3:(true != false)=true:=rfl
   have v4:(false != true)=true:=rfl
   rcases Bool.eq_false_or_eq_true a.ref with ea | ea
   ·rcases Bool.eq_false_or_eq_true b.ref with eb | eb
    ·simp only [ea,eb,w1,w2,if_true]at h
     repeat' (first
 | simp only [go_sem,hD,hJ,hP,hY,Lo,E4,ea,eb,w1,w2,v1,v2]
 | (with_reducible refine aJ hQ ?_;simp only [ay,az,Option.some.injEq,exists_eq_left',go_sem,hD,hJ,hP,hY];repeat' (first | exact Ok.out | with_reducible refine aM ?_ ?_ | (simp;done))))
     refine dn 0 0 ?_ ?_ (IH (r1,r2,k+1) ⟨g2,b2,h⟩ (Nat.lt_succ_self _))
     ·(simp only [go_sem,hD,hJ,hP,hY,aF bq];try exact bo)
     ·(simp only [go_sem,hD,hJ,hP,hY,aF bq];try exact bo)
    ·simp only [ea,eb,w3,w4,Bool.false_eq_true,if_false]at h
     subst h
     repeat' (first
 | simp only [go_sem,hD,hJ,hP,hY,Lo,E4,ea,eb,w3,w4,v3,v4]
 | (with_reducible refine aJ hQ ?_;simp only [ay,az,Option.some.injEq,exists_eq_left',go_sem,hD,hJ,hP,hY];repeat' (first | exact Ok.out | with_reducible refine aM ?_ ?_ | (simp;done))))
   ·rcases Bool.eq_false_or_eq_true b.ref with eb | eb
    ·simp only [ea,eb,w3,w4,Bool.false_eq_true,if_false]at h
     subst h
     repeat' (first
 | simp only [go_sem,hD,hJ,hP,hY,Lo,E4,ea,eb,w3,w4,v3,v4]
 | (with_reducible refine aJ hQ ?_;simp only [ay,az,Option.some.injEq,exists_eq_left',go_sem,hD,hJ,hP,hY];repeat' (first | exact Ok.out | with_reducible refine aM ?_ ?_ | (simp;done))))
    ·simp only [ea,eb,w1,w2,if_true]at h
     repeat' (first
 | simp only [go_sem,hD,hJ,hP,hY,Lo,E4,ea,eb,w1,w2,v1,v2]
 | (with_reducible refine aJ hQ ?_;simp only [ay,az,Option.some.injEq,exists_eq_left',go_sem,hD,hJ,hP,hY];repeat' (first | exact Ok.out | with_reducible refine aM ?_ ?_ | (simp;done))))
     refine dn 0 0 ?_ ?_ (IH (r1,r2,k+1) ⟨g2,b2,h⟩ (Nat.lt_succ_self _))
     ·(simp only [go_sem,hD,hJ,hP,hY,aF bq];try exact bo)
     ·(simp only [go_sem,hD,hJ,hP,hY,aF bq];try exact bo)
end Go.Abs

/-! Ar2 -/

namespace Go.Abs
set_option maxRecDepth 8000
open Go.Proofs
theorem Hs {p:Pg} {v:Sm} (h:p.kL) (hv:v.ko) (s:St):aI Try.prog mF [.agg (bN p), .agg (bd v)] s (.bool (v.j6 p)) s:=by
 refine aI.pure ?_ (by simp [D.bE,D.ok,jh,lX]) rfl s
 obtain⟨rl,qu,vg⟩:=h.procs
 have vb:v.args.length<1000000000:=by have:=Ar.cZ v.args;have:=hv.2.2;omega
 generalize hR:v.j6 p=R
 simp only [Sm.j6]at hR
 unfold S0
 have b0:(v.kind != 4) = !(v.kind==4):=rfl
 rcases Bool.eq_false_or_eq_true (v.kind==4)with b1 | b1
 case inr=>
  rw [b1]at b0
  simp only [b1,Bool.false_and]at hR
  subst hR
  refine aI.go ry rfl fun B Q hB hQ=> ?_
  have⟨hD,hJ,hP,hY⟩:=bZ
  repeat' (first
 | simp only [go_sem,hD,hJ,hP,hY,b0,Bool.not_false]
 | (with_reducible refine aJ hQ ?_;simp only [ay,az,Option.some.injEq,exists_eq_left',go_sem,hD,hJ,hP,hY];repeat' (first | exact Ok.out | with_reducible refine aM ?_ ?_ | (simp;done))))
 rw [b1]at b0
 simp only [b1,Bool.true_and,Pg.find]at hR
 refine aI.go ry rfl fun B Q hB hQ=> ?_
 have⟨hD,hJ,hP,hY⟩:=bZ
 repeat' (first
 | simp only [go_sem,hD,hJ,hP,hY,b0,Bool.not_true]
 | (with_reducible refine aJ hQ ?_;simp only [ay,az,Option.some.injEq,exists_eq_left',go_sem,hD,hJ,hP,hY];repeat' (first | exact Ok.out | with_reducible refine aM ?_ ?_ | (simp;done))))
 refine dD 2 0 (bp.ind (ι:=List Pc×Nat) (fun i=>p.procs.drop i.2=i.1∧(match gV v.proc i.1 with | none=>false | some q=>w8 q.params v.args)=R) (fun i=>i.1.length)
  (fun i=> [(3, .ptr 1 0),(11, .slice .shared 5 (p.procs.map bL)),(12, .int .i64 (p.procs.length:Int)),(13, .int .i64 (i.2:Int))]) (fun i=>⟨[bN p,bd v],[]⟩) ?_ (p.procs,0) ⟨rfl,hR⟩)
 clear hR
 rintro⟨rest,k⟩ ⟨h1,hR⟩ IH
 dsimp only at h1 hR
 cases rest with
 | nil=>
  have hD:=drop_nil h1
  simp only [gV]at hR
  subst hR
  repeat' (first
 | simp only [go_sem,hD,hJ,hP,hY]
 | (with_reducible refine aJ hQ ?_;simp only [ay,az,Option.some.injEq,exists_eq_left',go_sem,hD,hJ,hP,hY];repeat' (first | exact Ok.out | with_reducible refine aM ?_ ?_ | (simp;done))))
 | cons a rest=>
  obtain⟨hJ,g2,hD,g4⟩:=drop_cons h1
  have bq:k<4611686018427387904:=by omega
  have yN:=h.small (List.mem_of_getElem? hJ)
  have Ll:=fun s=>Pa (l:=a.params) (m:=v.args) (by have:=yN.par;omega) vb s
  simp only [gV]at hR
  rcases Bool.eq_false_or_eq_true (a.name==v.proc)with c1 | c1
  ·simp only [c1,if_true]at hR
   subst hR
   repeat' (first
 | simp only [go_sem,hD,hJ,hP,hY,c1]
 | (with_reducible refine CU (Ll _) ?_)
 | (with_reducible refine aJ hQ ?_;simp only [ay,az,Option.some.injEq,exists_eq_left',go_sem,hD,hJ,hP,hY];repeat' (first | exact Ok.out | with_reducible refine aM ?_ ?_ | (simp;done))))
  ·simp only [c1,Bool.false_eq_true,if_false]at hR
   repeat' (first
 | simp only [go_sem,hD,hJ,hP,hY,c1]
 | (with_reducible refine aJ hQ ?_;simp only [ay,az,Option.some.injEq,exists_eq_left',go_sem,hD,hJ,hP,hY];repeat' (first | exact Ok.out | with_reducible refine aM ?_ ?_ | (simp;done))))
   refine dn 2 0 ?_ ?_ (IH (rest,k+1) ⟨g2,hR⟩ (Nat.lt_succ_self _))
   ·(simp only [go_sem,hD,hJ,hP,hY,aF bq];try exact bo)
   ·(simp only [go_sem,hD,hJ,hP,hY,aF bq];try exact bo)
theorem Mx {p:Pg} {v:Sm} (h:p.kL) (hv:v.ko) (s:St):aI Try.prog pF [.agg (bN p), .agg (bd v)] s (.bool (p.scope.1==0 && v.j6 p)) s:=by
 refine aI.pure ?_ (by simp [D.bE,D.ok,jh,lX]) rfl s
 have og:=fun s=>vL h s
 have yR:=fun s=>Hs h hv s
 unfold S0
 rcases Bool.eq_false_or_eq_true (p.scope.1==0)with b1 | b1
 all_goals
  simp only [b1,Bool.true_and,Bool.false_and]
  refine aI.go xO rfl fun B Q hB hQ=> ?_
  have⟨hD,hJ,hP,hY⟩:=bZ
  repeat' (first
 | simp only [go_sem,hD,hJ,hP,hY,b1]
 | (with_reducible refine CU (og _) ?_)
 | (with_reducible refine CU (yR _) ?_)
 | (with_reducible refine aJ hQ ?_;simp only [ay,az,Option.some.injEq,exists_eq_left',go_sem,hD,hJ,hP,hY];repeat' (first | exact Ok.out | with_reducible refine aM ?_ ?_ | (simp;done))))
def Br (p:Pg):List Sm→Option Sm
 | []=>none
 | v::l=>if v.kind==4 && !(v.j6 p)then some v else Br p l
def lM (c:Int):Option Sm→Int×Int
 | some v=>(c,v.id)
 | none=>(0,0)
def Pg.arity (p:Pg):Int×Int:=if p.scope.1==0 then lM 6 (Br p p.pre)else(1,0)
theorem Pg.kL.pre {p:Pg} (h:p.kL) : ∀ v∈p.pre,v.ko:=fun v m=>by
 simp only [Pg.pre,List.mem_flatten,List.mem_map]at m
 obtain⟨l,⟨f,hf,rfl⟩,m⟩:=m
 exact h.said hf v m
theorem vN {p:Pg} (h:p.kL) (s:St):aI Try.prog km [.agg (bN p)] s (.agg [.int .i64 p.arity.1, .int .i64 p.arity.2]) s:=by
 refine aI.pure ?_ (by simp [D.bE,D.ok,jh]) rfl s
 obtain⟨rl,qu,vg⟩:=h.procs
 have og:=fun s=>vL h s
 have c7:=fun s=>zO (p:=p) (by omega) s
 have hL:=(mb p).1
 have Lp:=mc p
 generalize hR:p.arity=R
 simp only [Pg.arity]at hR
 unfold S0
 have b0:(p.scope.1 != 0) = !(p.scope.1==0):=rfl
 rcases Bool.eq_false_or_eq_true (p.scope.1==0)with b1 | b1
 case inr=>
  rw [b1]at b0
  simp only [b1,Bool.false_eq_true,if_false]at hR
  subst hR
  refine aI.go qn rfl fun B Q hB hQ=> ?_
  have⟨hD,hJ,hP,hY⟩:=bZ
  repeat' (first
 | simp only [go_sem,hD,hJ,hP,hY,b0,Bool.not_false]
 | (with_reducible refine CU (og _) ?_)
 | (with_reducible refine aJ hQ ?_;simp only [ay,az,Option.some.injEq,exists_eq_left',go_sem,hD,hJ,hP,hY];repeat' (first | exact Ok.out | with_reducible refine aM ?_ ?_ | (simp;done))))
 rw [b1]at b0
 simp only [b1,if_true, ← hL]at hR
 refine aI.go qn rfl fun B Q hB hQ=> ?_
 have⟨hD,hJ,hP,hY⟩:=bZ
 repeat' (first
 | simp only [go_sem,hD,hJ,hP,hY,b0,Bool.not_true,sh]
 | (with_reducible refine CU (og _) ?_)
 | (with_reducible refine CU (c7 _) ?_)
 | (with_reducible refine aJ hQ ?_;simp only [ay,az,Option.some.injEq,exists_eq_left',go_sem,hD,hJ,hP,hY];repeat' (first | exact Ok.out | with_reducible refine aM ?_ ?_ | (simp;done))))
 refine dD 2 0 (bp.ind (ι:=List Im×Nat) (fun i=>p.dQ.L.drop i.2=i.1∧lM 6 (Br p (i.1.map Im.s))=R) (fun i=>i.1.length)
  (fun i=> [(1, .ptr 0 0),(2, .ptr 1 0),(14, .slice .shared 17 (p.dQ.L.map ef)),(15, .int .i64 (p.dQ.L.length:Int)),(16, .int .i64 (i.2:Int))]) (fun i=>⟨[bN p,[.int .i64 0, .int .i64 0]],[]⟩) ?_ (p.dQ.L,0) ⟨rfl,hR⟩)
 clear hR
 rintro⟨rest,k⟩ ⟨h1,hR⟩ IH
 dsimp only at h1 hR
 cases rest with
 | nil=>
  have hD:=drop_nil h1
  simp only [List.map_nil,Br,lM]at hR
  subst hR
  repeat' (first
 | simp only [go_sem,hD,hJ,hP,hY]
 | (with_reducible refine aJ hQ ?_;simp only [ay,az,Option.some.injEq,exists_eq_left',go_sem,hD,hJ,hP,hY];repeat' (first | exact Ok.out | with_reducible refine aM ?_ ?_ | (simp;done))))
 | cons a rest=>
  obtain⟨hJ,g2,hD,g4⟩:=drop_cons h1
  have bq:k<4611686018427387904:=by omega
  have yO:a.s∈p.pre:=by rw [← hL];exact List.mem_map_of_mem (List.mem_of_getElem? hJ)
  have yR:=fun s=>Hs h (h.pre _ yO) s
  simp only [List.map_cons,Br]at hR
  rcases Bool.eq_false_or_eq_true (a.s.kind==4)with c1 | c1
  ·rcases Bool.eq_false_or_eq_true (a.s.j6 p)with c2 | c2
   ·simp only [c1,c2,Bool.not_true,Bool.and_false,Bool.false_eq_true,if_false]at hR
    repeat' (first
 | simp only [go_sem,hD,hJ,hP,hY,c1,c2]
 | (with_reducible refine CU (yR _) ?_)
 | (with_reducible refine aJ hQ ?_;simp only [ay,az,Option.some.injEq,exists_eq_left',go_sem,hD,hJ,hP,hY];repeat' (first | exact Ok.out | with_reducible refine aM ?_ ?_ | (simp;done))))
    refine dn 2 0 ?_ ?_ (IH (rest,k+1) ⟨g2,hR⟩ (Nat.lt_succ_self _))
    ·(simp only [go_sem,hD,hJ,hP,hY,aF bq];try exact bo)
    ·(simp only [go_sem,hD,hJ,hP,hY,aF bq];try exact bo)
   ·simp only [c1,c2,Bool.not_false,Bool.and_true,if_true,lM]at hR
    subst hR
    repeat' (first
 | simp only [go_sem,hD,hJ,hP,hY,c1,c2]
 | (with_reducible refine CU (yR _) ?_)
 | (with_reducible refine aJ hQ ?_;simp only [ay,az,Option.some.injEq,exists_eq_left',go_sem,hD,hJ,hP,hY];repeat' (first | exact Ok.out | with_reducible refine aM ?_ ?_ | (simp;done))))
  ·simp only [c1,Bool.false_and,Bool.false_eq_true,if_false]at hR
   repeat' (first
 | simp only [go_sem,hD,hJ,hP,hY,c1]
 | (with_reducible refine CU (yR _) ?_)
 | (with_reducible refine aJ hQ ?_;simp only [ay,az,Option.some.injEq,exists_eq_left',go_sem,hD,hJ,hP,hY];repeat' (first | exact Ok.out | with_reducible refine aM ?_ ?_ | (simp;done))))
   refine dn 2 0 ?_ ?_ (IH (rest,k+1) ⟨g2,hR⟩ (Nat.lt_succ_self _))
   ·(simp only [go_sem,hD,hJ,hP,hY,aF bq];try exact bo)
   ·(simp only [go_sem,hD,hJ,hP,hY,aF bq];try exact bo)
end Go.Abs

/-! Ar3 -/

namespace Go.Abs
open Go.Proofs
theorem yS {p:Pg} (h:(p.scope.1==0)=true):p.may=true:=by
 unfold Pg.scope at h
 split at h
 ·assumption
 ·cases h
end Go.Abs

/-! Srt1 -/

namespace Go.Abs
open Go.Proofs
def jK (out:List aD):List aD→aD→Bool→aD×Bool
 | [],c,a=>(c,a)
 | s::l,c,a=>if !(dG out s) && (!a || bytesLess s c)then jK out l s true else jK out l c a
def Ht (l out:List aD):List aD:=if(jK out l [] false).2 then out++ [(jK out l [] false).1]else out
def lk (l:List aD):Nat→List aD→List aD
 | 0,out=>out
 | n+1,out=>lk l n (Ht l out)
def fN (l:List aD):List aD:=lk l l.length []
end Go.Abs

/-! Shelf -/

namespace Go.Proofs
open Go.Shelf
def Try.Cg:Go.Shelf.Ren:=⟨fun | 190=>44 | 125=>69 | 258=>68 | 128=>90 | 129=>91 | 302=>81 | 303=>82 | 304=>83 | 305=>84 | 306=>85 | 307=>86 | 308=>87 | 309=>88 | 310=>89 | 333=>98 | 329=>99 | 330=>100 | 334=>101 | 335=>102 | 336=>103 | 344=>106 | n=>n,fun | 31=>22 | 9=>9 | 3=>3 | 46=>110 | 0=>0 | 51=>129 | 53=>131 | 4=>4 | 183=>121 | 182=>120 | 131=>126 | 5=>5 | 218=>137 | 222=>141 | 228=>144 | 229=>145 | n=>n,fun | n=>n⟩
theorem Try.CP:Go.Proofs.Lays.n190 Try.prog Try.Cg:= {
 mixed:=by kernel_rfl
 f125:=Try.func69.trans (congrArg some (by kernel_rfl))
 f128:=Try.func90.trans (congrArg some (by kernel_rfl))
 f129:=Try.func91.trans (congrArg some (by kernel_rfl))
 f190:=Try.func44.trans (congrArg some (by kernel_rfl))
 f258:=Try.func68.trans (congrArg some (by kernel_rfl))
 f302:=Try.func81.trans (congrArg some (by kernel_rfl))
 f303:=Try.func82.trans (congrArg some (by kernel_rfl))
 f304:=Try.func83.trans (congrArg some (by kernel_rfl))
 f305:=Try.func84.trans (congrArg some (by kernel_rfl))
 f306:=Try.func85.trans (congrArg some (by kernel_rfl))
 f307:=Try.func86.trans (congrArg some (by kernel_rfl))
 f308:=Try.func87.trans (congrArg some (by kernel_rfl))
 f309:=Try.func88.trans (congrArg some (by kernel_rfl))
 f310:=Try.func89.trans (congrArg some (by kernel_rfl))
 f329:=Try.func99.trans (congrArg some (by kernel_rfl))
 f330:=Try.func100.trans (congrArg some (by kernel_rfl))
 f333:=Try.func98.trans (congrArg some (by kernel_rfl))
 f334:=Try.func101.trans (congrArg some (by kernel_rfl))
 f335:=Try.func102.trans (congrArg some (by kernel_rfl))
 f336:=Try.func103.trans (congrArg some (by kernel_rfl))
 f344:=Try.func106.trans (congrArg some (by kernel_rfl))
 t0:=Try.underlying0
 a0:=Try.isAgg0
 z0:=Try.sizeOf0
 v0:=Try.zeroValue0
 t3:=Try.underlying3
 a3:=Try.isAgg3
 z3:=Try.sizeOf3
 v3:=Try.zeroValue3
 t4:=Try.underlying4
 a4:=Try.isAgg4
 z4:=Try.sizeOf4
 v4:=Try.zeroValue4
 t5:=Try.underlying5
 a5:=Try.isAgg5
 z5:=Try.sizeOf5
 v5:=Try.zeroValue5
 t9:=Try.underlying9
 a9:=Try.isAgg9
 z9:=Try.sizeOf9
 v9:=Try.zeroValue9
 t31:=Try.underlying22
 a31:=Try.isAgg22
 z31:=Try.sizeOf22
 v31:=Try.zeroValue22
 t46:=Try.underlying110
 a46:=Try.isAgg110
 z46:=Try.sizeOf110
 v46:=Try.zeroValue110
 t51:=Try.underlying129
 a51:=Try.isAgg129
 z51:=Try.sizeOf129
 v51:=Try.zeroValue129
 t53:=Try.underlying131
 a53:=Try.isAgg131
 z53:=Try.sizeOf131
 v53:=Try.zeroValue131
 t131:=Try.underlying126
 a131:=Try.isAgg126
 z131:=Try.sizeOf126
 v131:=Try.zeroValue126
 t182:=Try.underlying120
 a182:=Try.isAgg120
 z182:=Try.sizeOf120
 v182:=Try.zeroValue120
 t183:=Try.underlying121
 a183:=Try.isAgg121
 z183:=Try.sizeOf121
 v183:=Try.zeroValue121
 t218:=Try.underlying137
 a218:=Try.isAgg137
 z218:=Try.sizeOf137
 v218:=Try.zeroValue137
 t222:=Try.underlying141
 a222:=Try.isAgg141
 z222:=Try.sizeOf141
 v222:=Try.zeroValue141
 t228:=Try.underlying144
 a228:=Try.isAgg144
 z228:=Try.sizeOf144
 v228:=Try.zeroValue144
 t229:=Try.underlying145
 a229:=Try.isAgg145
 z229:=Try.sizeOf145
 v229:=Try.zeroValue145}
open Go.Sort Go.RowKit in
theorem Try.slices_Sort_string (uj off cap:Nat) (ss:List (List UInt8)) (w:World) (hH:Holds encStr w uj off ss.toArray) (Ub:uj<w.heap.size) (dJ:ss.length<4611686018427387904) :
 Calls Try.prog 44 #[.slice (some ⟨uj,off,none⟩) ss.length cap] w fun e w'=>
  e = .returned (.tuple #[])∧∃ n os,w'=grow (putRow encStr (Sort.ahead w n) uj off (ss.mergeSort fun x y=>decide (x≤y)).toArray) os:=Any.slices_Sort_string Try.CP uj off cap ss w hH Ub dJ
def Try.Ch:Go.Shelf.Ren:=⟨fun | 194=>45 | n=>n,fun | 31=>22 | 9=>9 | 3=>3 | 4=>4 | 0=>0 | n=>n,fun | n=>n⟩
theorem Try.CQ:Go.Proofs.Lays.n194 Try.prog Try.Ch:= {
 mixed:=by kernel_rfl
 f194:=Try.func45.trans (congrArg some (by kernel_rfl))
 t0:=Try.underlying0
 a0:=Try.isAgg0
 z0:=Try.sizeOf0
 v0:=Try.zeroValue0
 t3:=Try.underlying3
 a3:=Try.isAgg3
 z3:=Try.sizeOf3
 v3:=Try.zeroValue3
 t4:=Try.underlying4
 a4:=Try.isAgg4
 z4:=Try.sizeOf4
 v4:=Try.zeroValue4
 t9:=Try.underlying9
 a9:=Try.isAgg9
 z9:=Try.sizeOf9
 v9:=Try.zeroValue9
 t31:=Try.underlying22
 a31:=Try.isAgg22
 z31:=Try.sizeOf22
 v31:=Try.zeroValue22}
open Go.RowKit Go.Lib Go.Sort in
theorem Try.slices_Compact_string (uj off cap:Nat) (zs:List (List UInt8)) (w:World) (hH:Holds encStr w uj off zs.toArray) (dJ:zs.length≤9223372036854775807) (oD:zs.length≤cap) :
 Calls Try.prog 45 #[.slice (some ⟨uj,off,none⟩) zs.length cap] w fun e w'=>e = .returned (.slice (some ⟨uj,off,none⟩) (Lib.compact zs).length cap)∧∃ q,w'=putRow encStr (Sort.ahead w q) uj off (Lib.compact zs++List.replicate (zs.length - (Lib.compact zs).length) []).toArray:=Any.slices_Compact_string Try.CQ uj off cap zs w hH dJ oD
open Go.RowKit Go.Lib Go.Sort in
theorem Try.slices_Compact_string_empty (a:Option Addr) (cap:Nat) (w:World) :
 Calls Try.prog 45 #[.slice a 0 cap] w fun e w'=>e = .returned (.slice a 0 cap)∧w'=w:=Any.slices_Compact_string_empty Try.CQ a cap w
open Go.RowKit Go.Sort in
theorem Try.slices_Sort_string_none (p:Option Addr) (cap:Nat) (w:World) :
 Calls Try.prog 44 #[.slice p 0 cap] w fun e w'=>e = .returned (.tuple #[])∧w'=w:=Any.slices_Sort_string_none Try.CP p cap w
end Go.Proofs

/-! SortR -/

namespace Go.Abs
open Go.Proofs
section
variable {P:Program} {B:fh} {nt:Nat}
theorem My {x:Operand} {t:Nat} (h:cX x=some (.s t)):x = .tmp t:=by
 unfold cX at h
 split at h
 ·cases h;rfl
 ·obtain⟨d,_,h⟩:=map_some h;cases h
 ·cases h
 ·cases h
theorem E6 {ops:Array Oper} {o:Oper} {g g':Option (Nat×Bool)} {dst:Option Nat} {f:Nat} {xs:List X} (h:nS P ops o g=some (.call dst g' f xs)) :
 g'=g∧∃ args kf,o.op = .call ⟨.value (.func f),args,kf⟩∧enters P f=true∧rf args.toList=some xs:=by
 unfold nS at h
 split at h
 ·rename_i f' args kf jn
  split at h
  ·rename_i he
   obtain⟨xs',h1,h2⟩:=map_some h
   cases h2
   exact⟨rfl,args,kf,jn,he,h1⟩
  ·cases h
 ·obtain⟨_,_,h⟩:=map_some h;cases h
 ·split at h
  ·cases h
  ·split at h <;> cases h
theorem Hu {ops:Array Oper} {o:Oper} {tmps:Array Value} (hg:po ops o.guard=some none):Region.wanted o (yielded ops tmps)=true:=by
 have:o.guard=none:=by
  cases yh:o.guard with
  | none=>rfl
  | some p=>
   obtain⟨j,b⟩:=p
   rw [yh]at hg
   unfold po at hg
   simp only at hg
   split at hg <;> cases hg
 simp [Region.wanted,this]
theorem Sem.Pe {a k b f:Nat} {is:List AI} {Q:Exit→Tm→St→Prop} {tm:Tm} {s:St}
 (Rc : ∀ act w,Holds B nt (tm.put (some a) (tm.get k)) s act w→Calls P f #[act.tmps.getD a Go.undef] w fun e w'=>∃ v,e = .returned v∧∃ bh s',Holds B nt bh s' (act.put (some b) v) w'∧fE P is (Q .normal) bh s') :
 Sem P B nt (.run (.op (some a) none (.mv (.s k)):: .call (some b) none f [.s a]::is)) Q tm s:=by
 intro c hc act w hh
 obtain⟨id,ops,rfl,hi⟩:=iT hc
 refine wp_region ?_
 have key : ∀ (l:List Nat) (ol:List Oper),l.map (ops[·]?)=ol.map some→mq P nt ops ol=some (.op (some a) none (.mv (.s k)):: .call (some b) none f [.s a]::is)→wpOps P ops (lx B nt Q) l act w:=by
  intro l ol hl qN
  match ol,l,hl with
  | [],_,_=>simp [mq]at qN
  | o0::ol,[],hl=>simp at hl
  | o0::ol,j0::l,hl=>
   simp only [List.map_cons,List.cons.injEq]at hl
   obtain⟨hj0,hl⟩:=hl
   unfold mq at qN
   split at qN
   ·rename_i i0 is0 h1 h2
    cases qN
    match ol,l,hl,h2 with
    | [],_,_,h2=>simp [mq]at h2
    | o1::ol,[],hl,_=>simp at hl
    | o1::ol,j1::l,hl,h2=>
     simp only [List.map_cons,List.cons.injEq]at hl
     obtain⟨hj1,hl⟩:=hl
     unfold mq at h2
     split at h2
     ·rename_i i1 is1 h3 h4
      cases h2
      obtain⟨M,e,r,ht,hn,hd⟩:=hh
      have yB:=oj h1
      have Lq:=oj h3
      simp only [AI.dst]at yB Lq
      refine qM (K':=fun bh s'=>bh=tm.put (some a) (tm.get k)∧s'=s) hj0 h1 r (B.laid.ext e) ht (by simp only [fE,guarded,aH,X.ev,and_self]) (fun d v s1 w1 M1 hk e1 r1 hv=> ?_)
      obtain⟨uX,rfl⟩:=hk
      have hH:=Holds.put e ht hn hd (rm h1) e1 r1 hv
      simp only [AI.dst]at uX
      rw [← yB]at hH ⊢
      rw [uX]at hH
      obtain⟨g,hg,_,hb⟩:=tG h3
      obtain⟨rfl,args,kf,jn,rX,kF⟩:=E6 hb
      simp only [wpOps,hj1,Hu hg,if_true]
      left
      have Uc:args.map (act.put (some a) v).eval = #[(act.put (some a) v).tmps.getD a Go.undef]:=by
       have:args.toList = [.tmp a]:=by
        match hA:args.toList with
        | []=>rw [hA]at kF;simp [rf]at kF
        | [x]=>
         rw [hA]at kF
         simp only [rf]at kF
         split at kF
         ·rename_i x' r' hx hr
          cases kF
          rw [My hx]
         ·cases kF
        | x::y::z=>
         rw [hA]at kF
         simp only [rf]at kF
         split at kF
         ·rename_i x' r' hx hr
          cases kF
          split at hr
          ·cases hr
          ·cases hr
         ·cases kF
       have:args = #[.tmp a]:=by rw [← Array.toArray_toList (xs:=args),this]
       rw [this]
       simp only [List.map_toArray,List.map_cons,List.map_nil]
       rfl
      have hex:(execOp (act.put (some a) v).eval o1).run P w1 = .ok (.enter f #[(act.put (some a) v).tmps.getD a Go.undef]) w1:=by
       obtain⟨dst,op,type,pos,after,guard⟩:=o1
       simp only at jn
       subst jn
       rw [← Uc]
       exact qH (act.put (some a) v).eval dst f args kf type pos after guard rfl rX w1
      unfold Oper.wp
      rw [hex,Oper.upon_enter]
      refine(Rc _ _ hH).mono ?_
      rintro en w' ⟨v',rfl,bh,s',hH',hvc⟩
      rw [← Lq]
      exact tA (Q:=Q) l ol _ hl h4 bh s' _ w' hvc hH'
     ·cases h2
   ·cases qN
 exact key _ _ (tB ops) hi
theorem yT (hB:B.s = ⟨[],[]⟩) {tm:Tm} {s:St} {act:Act} {w:World} (h:Holds B nt tm s act w) {t:Nat} {l:List aD} (ht:s.av[t]? = some (some l.length)) {k0:Nat} (O0:tm.get k0 = .slice (.tok t) 1 (l.map encStr)) :
 (l = []∧∀ k,tm.get k = .slice (.tok t) 1 (l.map encStr)→(act.tmps.getD k Go.undef = .slice none 0 0∨∃ b q,act.tmps.getD k Go.undef = .slice (some ⟨b,q,none⟩) 0 0))∨
 ∃ (b cap:Nat) (vs:Array Value) (T:TypeId),(∀ k,tm.get k = .slice (.tok t) 1 (l.map encStr)→act.tmps.getD k Go.undef = .slice (some ⟨b,0,none⟩) l.length cap)∧l.length≤cap∧w.heap[b]? = some (.cells vs T (0,0))∧vs.size=cap∧B.w.heap.size≤b∧
  ∀ j (hj:j<l.length),vs[j]? = some (.string ⟨⟨l[j]⟩⟩):=by
 obtain⟨M,e,r,hr,_,_⟩:=h
 rcases r.tok t _ ht with ⟨h3,h4⟩ | ⟨b,cap,z,vs,T,h3,h4,h5,h6,h7⟩
 ·have hl:l = []:=List.eq_nil_of_length_eq_zero h4
  subst hl
  refine .inl ⟨rfl,fun k hk=> ?_⟩
  have hv:=hr k
  rw [hk]at hv
  generalize act.tmps.getD k Go.undef=v at hv
  cases hv with
  | gf _ _ cap hc lp=>subst hc;exact .inl rfl
  | slice _ _ _ b q cap hl hs h1 h2 lp=>
   rcases(lp.2 _ ht).2 rfl with ⟨_,h0,_⟩ | ⟨b',_,gK⟩
   ·subst h0;exact .inr ⟨b,q,rfl⟩
   ·rw [h3]at gK;cases gK
 ·right
  have each : ∀ k,tm.get k = .slice (.tok t) 1 (l.map encStr)→z=1∧act.tmps.getD k Go.undef = .slice (some ⟨b,0,none⟩) l.length cap∧l.length≤cap∧∀ j (hj:j<l.length),∃ u,M.G b j=some u∧RD M s (.str l[j]) u:=by
   intro k hk
   have hv:=hr k
   rw [hk]at hv
   generalize act.tmps.getD k Go.undef=v at hv
   generalize iC:l.map encStr=rows at hv
   cases hv with
   | gf _ _ cap hc lp=>
    have hl:l = []:=by cases l <;> simp at iC;rfl
    subst hl
    rcases(lp.2 _ ht).2 rfl with ⟨h0,_⟩ | ⟨b',h0,_⟩
    ·rw [h3]at h0;cases h0
    ·cases h0
   | slice _ _ _ b2 q abQ hl hs h1 h2 lp=>
    subst iC
    rw [List.length_map]at hl lp
    rcases(lp.2 _ ht).2 rfl with ⟨h0,_⟩ | ⟨b',hb,gK⟩
    ·rw [h3]at h0;cases h0
    ·cases hb
     rw [h3]at gK
     cases gK
     refine⟨rfl,by rw [List.length_map],hl,fun j hj=> ?_⟩
     have e1:(l.map encStr)[j]? = some [.str l[j]]:=by rw [List.getElem?_map,List.getElem?_eq_getElem hj];rfl
     obtain⟨u,hu⟩:=h1 j _ 0 _ e1 rfl
     refine⟨u,by simpa using hu,h2 j _ 0 _ u e1 rfl hu⟩
  obtain⟨rfl,_,oD,iS⟩:=each k0 O0
  have c7:B.w.heap.size≤b:=by
   rcases e.ml t b cap 1 ⟨_,ht⟩ h3 with ⟨⟨n,hn⟩,_⟩ | h
   ·rw [hB]at hn;simp at hn
   ·exact h
  refine⟨b,cap,vs,T,fun k hk=>(each k hk).2.1,oD,h4,by simpa [zs]using h5,c7,fun j hj=> ?_⟩
  obtain⟨u,hu,lH⟩:=iS j hj
  have:=(r.comm _ _ _ hu).1
  rw [gY h4,lH.ig]at this
  exact this
theorem Bs (hB:B.s = ⟨[],[]⟩) {tm:Tm} {s:St} {act oO:Act} {w w':World} (h:Holds B nt tm s act w) {b cap:Nat} {vs:Array Value} {T:TypeId} (dJ:vs.size=cap) (qq:B.w.heap.size≤b)
 (iQ : ∀ q,q<B.w.heap.size→w'.heap[q]? = w.heap[q]?) (db:w'.heap[b]? = some (.cells vs T (0,0))) (Cq:w.heap.size≤w'.heap.size) (yp:w'.os=w.os) (wq:w'.tape=w.tape) (H7:w'.output=w.output)
 {l:List aD} (hl:l.length≤cap) (iS : ∀ j (hj:j<l.length),vs[j]? = some (.string ⟨⟨l[j]⟩⟩)) {k:Nat} (E7:oO.tmps.getD k Go.undef = .slice (some ⟨b,0,none⟩) l.length cap) (hn:oO.tmps.size=nt) (hd:oO.defers = []) :
 Holds B nt [(k, .slice (.tok 0) 1 (l.map encStr))] ⟨[],[some l.length]⟩ oO w':=by
 obtain⟨M,e,r,hr,_,_⟩:=h
 let M':Map:=⟨fun q o=>if q=b then(if o<l.length then(l[o]?).map fun x=>Value.string ⟨⟨x⟩⟩else none)else B.M.G q o,B.M.loc,fun _=>some (b,cap,1)⟩
 have R5 : ∀ q o v,B.M.G q o=some v→q<B.w.heap.size∧w'.cell? ⟨q,o,none⟩=some v∧v.oneCell'=true:=by
  intro q o v hq
  obtain⟨h1,h2⟩:=r.comm q o v (e.le.G q o v hq)
  have hD:=B.US q o v hq
  refine⟨hD, ?_,h2⟩
  rw [← h1]
  simp [World.cell?,iQ q hD]
 have p8 : ∀ j (hj:j<l.length),w'.cell? ⟨b,j,none⟩=some (.string ⟨⟨l[j]⟩⟩):=fun j hj=>by rw [gY db];exact iS j hj
 have hJ : ∀ (j:Nat) v,(if j<l.length then(l[j]?).map fun x=>Value.string ⟨⟨x⟩⟩else none)=some v→∃ hj:j<l.length,v = .string ⟨⟨l[j]⟩⟩:=by
  intro j v hv
  split at hv
  ·rename_i hj
   rw [List.getElem?_eq_getElem hj]at hv
   exact⟨hj,by simpa using hv.symm⟩
  ·cases hv
 refine⟨M',⟨⟨fun q o v hq=> ?_,by simp [hB],fun o ho=>rfl,by rw [hB];exact Nat.zero_le _,fun t n' ht _=>by rw [hB]at ht;exact absurd ht (Nat.not_lt_zero _)⟩,fun q hq _ _=> ?_,fun o _ h2=>absurd h2 (Nat.not_lt_zero _),fun t q c z _ hb=> ?_,fun q o dS=> ?_,Nat.le_trans e.size Cq,yp.trans e.os,wq.trans e.tape,H7.trans e.output⟩,
  ⟨fun q o v hq=> ?_,fun o ds ho=>by simp at ho,fun o ho=>absurd ho (Nat.not_lt_zero _),fun o o' ho=>absurd ho (Nat.not_lt_zero _),fun t n ht=> ?_,fun t q c z o _ _ ho=>absurd ho (Nat.not_lt_zero _),fun t t' q c z c' z' G5 kE _ _=> ?_⟩,fun u=> ?_,hn,hd⟩
 ·show(if q=b then _ else B.M.G q o)=some v
  rw [if_neg (by have:=(R5 q o v hq).1;omega)]
  exact hq
 ·rw [iQ q hq]
  exact e.kept q hq (fun o ho=>by rw [hB]at ho;exact absurd ho (Nat.not_lt_zero _)) (fun t c z kE=>by rw [hB]at kE;obtain⟨n,sS⟩:=kE;simp at sS)
 ·cases hb;exact .inr qq
 ·by_cases hq:q=b
  ·subst hq;exact .inl qq
  ·exact absurd (show(if q=b then _ else B.M.G q o)=B.M.G q o from if_neg hq) dS
 ·have nk:(if q=b then(if o<l.length then(l[o]?).map fun x=>Value.string ⟨⟨x⟩⟩else none)else B.M.G q o)=some v:=hq
  by_cases Pf:q=b
  ·rw [if_pos Pf]at nk
   obtain⟨hj,rfl⟩:=hJ o v nk
   rw [Pf]
   exact⟨p8 o hj,rfl⟩
  ·rw [if_neg Pf]at nk
   exact(R5 q o v nk).2
 ·match t with
  | 0=>
   simp at ht
   subst ht
   refine .inr ⟨b,cap,1,vs,T,rfl,db,by simp [zs,dJ],hl,fun off ho=> ?_,fun h=>by cases h⟩
   show(if b=b then(if off<l.length then _ else none)else B.M.G b off)=none
   rw [if_pos rfl,if_neg (by simp [zs]at ho;omega)]
  | t+1=>simp at ht
 ·obtain⟨n1,h1⟩:=G5
  obtain⟨n2,h2⟩:=kE
  have a1:=(List.getElem?_eq_some_iff.1 h1).1
  have a2:=(List.getElem?_eq_some_iff.1 h2).1
  simp at a1 a2
  omega
 ·simp only [Tm.get]
  split
  ·rename_i Ph
   subst Ph
   rw [E7]
   have:=RD.slice (M:=M') (s:=⟨[],[some l.length]⟩) (.tok 0) 1 (l.map encStr) b 0 cap (by simpa using hl) (fun row hr=>by
    obtain⟨x,_,rfl⟩:=List.mem_map.1 hr;rfl) (fun i row j d e1 e2=> ?_) (fun i row j d u e1 e2 eu=> ?_) ⟨by simp,fun n sS=>by
    simp at sS
    subst sS
    exact⟨by simp,fun _=> .inr ⟨b,rfl,rfl⟩⟩⟩
   ·simpa using this
   ·rw [List.getElem?_map]at e1
    cases sL:l[i]? with
    | none=>rw [sL]at e1;cases e1
    | some x=>
     have mz:=(List.getElem?_eq_some_iff.1 sL).1
     rw [sL]at e1
     cases e1
     have hj:j=0:=by cases j with | zero=>rfl | succ j=>simp [encStr]at e2
     subst hj
     refine⟨.string ⟨⟨x⟩⟩, ?_⟩
     show(if b=b then(if 0+(i*1+0)<l.length then _ else none)else _)=_
     rw [if_pos rfl,if_pos (by omega)]
     simp [sL]
   ·rw [List.getElem?_map]at e1
    cases sL:l[i]? with
    | none=>rw [sL]at e1;cases e1
    | some x=>
     have mz:=(List.getElem?_eq_some_iff.1 sL).1
     rw [sL]at e1
     cases e1
     have hj:j=0:=by cases j with | zero=>rfl | succ j=>simp [encStr]at e2
     subst hj
     have CC:(if b=b then(if 0+(i*1+0)<l.length then(l[0+(i*1+0)]?).map fun x=>Value.string ⟨⟨x⟩⟩else none)else B.M.G b (0+(i*1+0)))=some u:=eu
     rw [if_pos rfl,if_pos (by omega)]at CC
     simp [sL]at CC
     subst CC
     simp [encStr]at e2
     subst e2
     exact .str x
  ·exact .junk _
theorem CR (hB:B.s = ⟨[],[]⟩) {tm:Tm} {s:St} {act oO:Act} {w:World} (h:Holds B nt tm s act w) {k:Nat} (E7:oO.tmps.getD k Go.undef = .slice none 0 0∨∃ b q,oO.tmps.getD k Go.undef = .slice (some ⟨b,q,none⟩) 0 0) (hn:oO.tmps.size=nt) (hd:oO.defers = []) :
 Holds B nt [(k, .slice (.tok 0) 1 (([] : List aD).map encStr))] ⟨[],[some 0]⟩ oO w:=by
 obtain⟨M,e,r,hr,_,_⟩:=h
 let M':Map:=⟨B.M.G,B.M.loc,fun _=>none⟩
 refine⟨M',⟨⟨fun q o v hq=>hq,by simp [hB],fun o ho=>rfl,by rw [hB];exact Nat.zero_le _,fun t n' ht _=>by rw [hB]at ht;exact absurd ht (Nat.not_lt_zero _)⟩,fun q hq _ _=> ?_,fun o _ h2=>absurd h2 (Nat.not_lt_zero _),fun t q c z _ hb=>(by cases hb),fun q o dS=>absurd rfl dS,e.size,e.os,e.tape,e.output⟩,
  ⟨fun q o v hq=>r.comm q o v (e.le.G q o v hq),fun o ds ho=>by simp at ho,fun o ho=>absurd ho (Nat.not_lt_zero _),fun o o' ho=>absurd ho (Nat.not_lt_zero _),fun t n ht=> ?_,fun t q c z o _ _ ho=>absurd ho (Nat.not_lt_zero _),fun t t' q c z c' z' G5 kE h1 _=>by cases h1⟩,fun u=> ?_,hn,hd⟩
 ·exact e.kept q hq (fun o ho=>by rw [hB]at ho;exact absurd ho (Nat.not_lt_zero _)) (fun t c z kE=>by rw [hB]at kE;obtain⟨n,sS⟩:=kE;simp at sS)
 ·match t with
  | 0=>simp at ht;subst ht;exact .inl ⟨rfl,rfl⟩
  | t+1=>simp at ht
 ·simp only [Tm.get]
  split
  ·rename_i Ph
   subst Ph
   have lp : ∀ base,fy M' ⟨[],[some 0]⟩ (.tok 0) 1 0 base 0:=fun base=>⟨by simp,fun n sS=>by
    simp at sS
    subst sS
    exact⟨Nat.le_refl _,fun _=> .inl ⟨rfl,rfl,fun h=>by cases h⟩⟩⟩
   rcases E7 with h | ⟨b,q,h⟩
   ·rw [h];exact .gf _ _ 0 rfl (lp none)
   ·rw [h];exact .slice (.tok 0) 1 [] b q 0 (Nat.le_refl _) (by simp) (by simp) (by simp) (lp _)
  ·exact .junk _
theorem Bt {α:Type} [Inhabited α] (enc:α→Value) (d:Array α) (c:Array Value) (j:Nat):(Sort.putCells enc 0 d c)[j]? = if j<d.size then(c[j]?).map fun _=>enc d[j]! else c[j]? :=by
 simp only [Sort.putCells,Array.getElem?_mapIdx]
 cases h:c[j]? with
 | none=>simp
 | some x=>by_cases hj:j<d.size <;> simp [hj]
theorem yU {w:World} {b n cap:Nat} {vs:Array Value} {T:TypeId} (db:w.heap[b]? = some (.cells vs T (0,0))) (dJ:vs.size=cap) (l:List aD) (hl:l.length≤cap) (os:Array Obj) :
 (∀ q,q≠b→q<w.heap.size→(Sort.grow (Sort.putRow Go.Proofs.encStr (Sort.ahead w n) b 0 l.toArray) os).heap[q]? = w.heap[q]?)∧
 (Sort.grow (Sort.putRow Go.Proofs.encStr (Sort.ahead w n) b 0 l.toArray) os).heap[b]? = some (.cells (Sort.putCells Go.Proofs.encStr 0 l.toArray vs) T (0,0))∧w.heap.size≤(Sort.grow (Sort.putRow Go.Proofs.encStr (Sort.ahead w n) b 0 l.toArray) os).heap.size∧
 (Sort.putCells Go.Proofs.encStr 0 l.toArray vs).size=cap∧∀ j (hj:j<l.length),(Sort.putCells Go.Proofs.encStr 0 l.toArray vs)[j]? = some (.string ⟨⟨l[j]⟩⟩):=by
 have hb:b<w.heap.size:=(Array.getElem?_eq_some_iff.1 db).1
 refine⟨fun q hq hD=> ?_, ?_, ?_, ?_,fun j hj=> ?_⟩
 ·simp only [Sort.grow,Sort.putRow,Sort.mapBlock,Sort.ahead]
  rw [Array.getElem?_append_left (by simpa using hD),Array.getElem?_modify]
  simp [Ne.symm hq]
 ·simp only [Sort.grow,Sort.putRow,Sort.mapBlock,Sort.ahead]
  rw [Array.getElem?_append_left (by simpa using hb),Array.getElem?_modify]
  simp [db,Sort.onCells]
 ·simp [Sort.grow,Sort.putRow,Sort.mapBlock,Sort.ahead]
 ·simp [Sort.putCells,dJ]
 ·rw [Bt]
  have h1:j<l.toArray.size:=by simpa using hj
  have h2:vs[j]? = some vs[j]:=Array.getElem?_eq_getElem (by omega)
  rw [if_pos h1,h2]
  simp [hj]
def ja (l:List aD):List aD:=l.mergeSort fun x y=>decide (x≤y)
theorem Bu {act:Act} {b:Nat} {v:Value} {u:Nat} (h:u≠b):(act.put (some b) v).tmps.getD u Go.undef=act.tmps.getD u Go.undef:=by
 simp only [Act.put,Array.getD_eq_getD_getElem?]
 rw [Array.getElem?_setIfInBounds_ne (fun e=>h e.symm)]
theorem yV {act:Act} {b:Nat} {v:Value} (h:b<act.tmps.size):(act.put (some b) v).tmps.getD b Go.undef=v:=by
 simp only [Act.put,Array.getD_eq_getD_getElem?]
 simp [h]
theorem Sem.sort (hB:B.s = ⟨[],[]⟩) {a k b t:Nat} {l:List aD} {is:List AI} {Q:Exit→Tm→St→Prop} {tm:Tm} {s:St} (hak:a≠k) (R6:b≠k) (Lj:a≠b)
 (hk:tm.get k = .slice (.tok t) 1 (l.map encStr)) (ht:s.av[t]? = some (some l.length)) (hl:l.length<4611686018427387904)
 (h:fE Try.prog is (Q .normal) [(k, .slice (.tok 0) 1 ((ja l).map encStr))] ⟨[],[some l.length]⟩) :
 Sem Try.prog B nt (.run (.op (some a) none (.mv (.s k)):: .call (some b) none fS [.s a]::is)) Q tm s:=by
 refine Sem.Pe fun act w hh=> ?_
 have sF:(tm.put (some a) (tm.get k)).get k = .slice (.tok t) 1 (l.map encStr):=by rw [Tm.ik,if_neg (by simpa using hak)];exact hk
 have Bv:(tm.put (some a) (tm.get k)).get a = .slice (.tok t) 1 (l.map encStr):=by rw [Tm.ik,if_pos rfl];exact hk
 have w9:(ja l).length=l.length:=List.length_mergeSort l
 have hn:(act.put (some b) (.tuple #[])).tmps.size=nt:=by obtain⟨_,_,_,_,h1,_⟩:=hh;simpa [Act.put]using h1
 have hd:(act.put (some b) (.tuple #[])).defers = []:=by obtain⟨_,_,_,_,_,h1⟩:=hh;simpa [Act.put]using h1
 have dJ:(act.tmps).size=nt:=by obtain⟨_,_,_,_,h1,_⟩:=hh;exact h1
 rcases yT hB hh ht Bv with ⟨rfl,hv⟩ | ⟨b',cap,vs,T,hv,oD,db,kU,qq,iS⟩
 ·rw [show ja [] = [] by simp [ja]]at h
  have call : ∀ p,act.tmps.getD a Go.undef = .slice p 0 0→Calls Try.prog fS #[act.tmps.getD a Go.undef] w fun e w'=>∃ v,e = .returned v∧∃ bh s',Holds B nt bh s' (act.put (some b) v) w'∧fE Try.prog is (Q .normal) bh s':=by
   intro p hp
   rw [hp]
   refine(Try.slices_Sort_string_none p 0 w).mono ?_
   rintro e w' ⟨rfl,rfl⟩
   refine⟨_,rfl,_,_,CR hB hh (k:=k) ?_ hn hd,h⟩
   rw [Bu (Ne.symm R6)]
   exact hv k sF
  rcases hv a Bv with h1 | ⟨b',q,h1⟩
  ·exact call _ h1
  ·exact call _ h1
 ·rw [hv a Bv]
  have hD:b'<w.heap.size:=(Array.getElem?_eq_some_iff.1 db).1
  refine(Try.slices_Sort_string b' 0 cap l w (fun j hj=> ?_) hD hl).mono ?_
  ·have Hv:j<l.length:=by simpa using hj
   refine⟨?_,by simp [World.frozen?,db]⟩
   rw [Nat.zero_add,gY db,iS j Hv]
   simp [Hv]
  ·rintro e w' ⟨rfl,n,os,rfl⟩
   obtain⟨p1,p2,p3,p4,p5⟩:=yU (n:=n) db kU (ja l) (by omega) os
   have hH:=Bs hB hh (oO:=act.put (some b) (.tuple #[])) (l:=ja l) (k:=k) p4 qq (fun q hq=>p1 q (by omega) (by obtain⟨M,e,_⟩:=hh;exact Nat.lt_of_lt_of_le hq e.size)) p2 p3 rfl rfl rfl (by omega) p5 (by rw [Bu (Ne.symm R6),hv k sF,w9]) hn hd
   rw [w9]at hH
   exact⟨_,rfl,_,_,hH,h⟩
theorem Ci (l:List aD):(Lib.compact l).length≤l.length:=by
 unfold Lib.compact Lib.compactUpTo
 rw [List.length_map]
 exact Nat.le_trans (List.length_filter_le _ _) (by simp)
theorem Sem.compact (hB:B.s = ⟨[],[]⟩) {a k b t:Nat} {l:List aD} {is:List AI} {Q:Exit→Tm→St→Prop} {tm:Tm} {s:St} (hbt:b<nt)
 (hk:tm.get k = .slice (.tok t) 1 (l.map encStr)) (ht:s.av[t]? = some (some l.length)) (hl:l.length<4611686018427387904)
 (h:fE Try.prog is (Q .normal) [(b, .slice (.tok 0) 1 ((Lib.compact l).map encStr))] ⟨[],[some (Lib.compact l).length]⟩) :
 Sem Try.prog B nt (.run (.op (some a) none (.mv (.s k)):: .call (some b) none fZ [.s a]::is)) Q tm s:=by
 refine Sem.Pe fun act w hh=> ?_
 have Bv:(tm.put (some a) (tm.get k)).get a = .slice (.tok t) 1 (l.map encStr):=by rw [Tm.ik,if_pos rfl];exact hk
 have dJ:(act.tmps).size=nt:=by obtain⟨_,_,_,_,h1,_⟩:=hh;exact h1
 have hn : ∀ v,(act.put (some b) v).tmps.size=nt:=fun v=>by simpa [Act.put]using dJ
 have hd : ∀ v,(act.put (some b) v).defers = []:=by obtain⟨_,_,_,_,_,h1⟩:=hh;intro v;simpa [Act.put]using h1
 rcases yT hB hh ht Bv with ⟨rfl,hv⟩ | ⟨b',cap,vs,T,hv,oD,db,kU,qq,iS⟩
 ·rw [show Lib.compact ([] : List aD) = []from rfl]at h
  have call : ∀ p,act.tmps.getD a Go.undef = .slice p 0 0→(p=none∨∃ b q,p=some ⟨b,q,none⟩)→Calls Try.prog fZ #[act.tmps.getD a Go.undef] w fun e w'=>∃ v,e = .returned v∧∃ bh s',Holds B nt bh s' (act.put (some b) v) w'∧fE Try.prog is (Q .normal) bh s':=by
   intro p hp hq
   rw [hp]
   refine(Try.slices_Compact_string_empty p 0 w).mono ?_
   rintro e w' ⟨rfl,rfl⟩
   refine⟨_,rfl,_,_,CR hB hh (k:=b) ?_ (hn _) (hd _),h⟩
   rw [yV (by omega)]
   rcases hq with rfl | ⟨x,y,rfl⟩
   ·exact .inl rfl
   ·exact .inr ⟨x,y,rfl⟩
  rcases hv a Bv with h1 | ⟨b',q,h1⟩
  ·exact call _ h1 (.inl rfl)
  ·exact call _ h1 (.inr ⟨b',q,rfl⟩)
 ·rw [hv a Bv]
  have Aj:(Lib.compact l).length≤l.length:=Ci l
  refine(Try.slices_Compact_string b' 0 cap l w (fun j hj=> ?_) (by omega) oD).mono ?_
  ·have Hv:j<l.length:=by simpa using hj
   refine⟨?_,by simp [World.frozen?,db]⟩
   rw [Nat.zero_add,gY db,iS j Hv]
   simp [Hv]
  ·rintro e w' ⟨rfl,q,rfl⟩
   obtain⟨p1,p2,p3,p4,p5⟩:=yU (n:=q) db kU (Lib.compact l++List.replicate (l.length - (Lib.compact l).length) []) (by simp;omega) #[]
   rw [Sort.grow_empty]at p1 p2 p3
   have hH:=Bs hB hh (oO:=act.put (some b) (.slice (some ⟨b',0,none⟩) (Lib.compact l).length cap)) (l:=Lib.compact l) (k:=b) p4 qq (fun q hq=>p1 q (by omega) (by obtain⟨M,e,_⟩:=hh;exact Nat.lt_of_lt_of_le hq e.size)) p2 p3 rfl rfl rfl (by omega)
    (fun j hj=>by
     have:=p5 j (by simp;omega)
     rw [List.getElem_append_left hj]at this
     exact this) (yV (by omega)) (hn _) (hd _)
   exact⟨_,rfl,_,_,hH,h⟩
end
end Go.Abs

/-! SrtP -/

namespace Go.Abs
theorem xa {a b:UInt8} : a<b↔a.toNat<b.toNat:=UInt8.lt_iff_toNat_lt
theorem rJ : ∀ a:aD,bytesLess a a=false
 | []=>rfl
 | x::a=>by
  show Go.Op.bytesLess (x::a) (x::a)=false
  have h:=rJ a
  have h:Go.Op.bytesLess a a=false:=h
  simp [Go.Op.bytesLess,h]
theorem rK : ∀ a b:aD,bytesLess a b=true∨a=b∨bytesLess b a=true
 | [],[]=> .inr (.inl rfl)
 | [],y::b=> .inl rfl
 | x::a,[]=> .inr (.inr rfl)
 | x::a,y::b=>by
  show Go.Op.bytesLess (x::a) (y::b)=true∨_∨Go.Op.bytesLess (y::b) (x::a)=true
  have h:Go.Op.bytesLess a b=true∨a=b∨Go.Op.bytesLess b a=true:=rK a b
  simp only [Go.Op.bytesLess,Bool.or_eq_true,Bool.and_eq_true,decide_eq_true_eq,beq_iff_eq,List.cons.injEq]
  by_cases e:x=y
  ·subst e
   rcases h with h | h | h
   ·exact .inl (.inr ⟨rfl,h⟩)
   ·exact .inr (.inl ⟨rfl,h⟩)
   ·exact .inr (.inr (.inr ⟨rfl,h⟩))
  ·have:x.toNat≠y.toNat:=fun h=>e (UInt8.toNat_inj.1 h)
   rcases Nat.lt_or_gt_of_ne this with h | h
   ·exact .inl (.inl (xa.2 h))
   ·exact .inr (.inr (.inl (xa.2 h)))
theorem xb : ∀ a b c:aD,bytesLess a b=true→bytesLess b c=true→bytesLess a c=true
 | a,b,[],h1,h2=>by cases b <;> cases h2
 | a,[],z::c,h1,h2=>by cases a <;> cases h1
 | [],y::b,z::c,h1,h2=>rfl
 | x::a,y::b,z::c,h1,h2=>by
  have h1:Go.Op.bytesLess (x::a) (y::b)=true:=h1
  have h2:Go.Op.bytesLess (y::b) (z::c)=true:=h2
  show Go.Op.bytesLess (x::a) (z::c)=true
  simp only [Go.Op.bytesLess,Bool.or_eq_true,Bool.and_eq_true,decide_eq_true_eq,beq_iff_eq]at h1 h2 ⊢
  rcases h1 with e1 | ⟨i1,e1⟩
  ·rcases h2 with e2 | ⟨i2,e2⟩
   ·exact .inl (xa.2 (Nat.lt_trans (xa.1 e1) (xa.1 e2)))
   ·exact .inl (i2 ▸ e1)
  ·rcases h2 with e2 | ⟨i2,e2⟩
   ·exact .inl (i1 ▸ e2)
   ·exact .inr ⟨i1.trans i2,xb a b c e1 e2⟩
def uk (l:List aD):Prop:=l.Pairwise fun a b=>bytesLess a b=true
theorem qZ : ∀ {a b:List aD},uk a→uk b→(∀ x,x∈a↔x∈b)→a=b
 | [],[],_,_,_=>rfl
 | [],y::b,_,_,h=>absurd ((h y).2 List.mem_cons_self) (by simp)
 | x::a,[],_,_,h=>absurd ((h x).1 List.mem_cons_self) (by simp)
 | x::a,y::b,h1,h2,h=>by
  obtain⟨g1,g2⟩:=List.pairwise_cons.1 h1
  obtain⟨g3,g4⟩:=List.pairwise_cons.1 h2
  have e:x=y:=by
   rcases List.mem_cons.1 ((h x).1 List.mem_cons_self)with e | m
   ·exact e
   ·rcases List.mem_cons.1 ((h y).2 List.mem_cons_self)with e | m'
    ·exact e.symm
    ·have:=xb _ _ _ (g3 x m) (g1 y m');rw [rJ]at this;cases this
  subst e
  rw [qZ g2 g4 fun z=> ?_]
  constructor
  ·intro m
   rcases List.mem_cons.1 ((h z).1 (List.mem_cons_of_mem _ m))with e | m'
   ·subst e;have:=g1 z m;rw [rJ]at this;cases this
   ·exact m'
  ·intro m
   rcases List.mem_cons.1 ((h z).2 (List.mem_cons_of_mem _ m))with e | m'
   ·subst e;have:=g3 z m;rw [rJ]at this;cases this
   ·exact m'
theorem pb (out:List aD) : ∀ (l:List aD) (c:aD) (a:Bool),
 let q:=jK out l c a
 (q.2=false↔a=false∧∀ x∈l,x∈out)∧(q.2=true→((a=true∧q.1=c)∨(q.1∈l∧q.1∉out))∧(a=true→bytesLess c q.1=false)∧∀ x∈l,x∉out→bytesLess x q.1=false)
 | [],c,a=>by
  simp only [jK]
  refine⟨by simp,fun h=>⟨.inl ⟨h,by trivial⟩,fun _=>rJ c,fun x m=>(by cases m)⟩⟩
 | s::l,c,a=>by
  simp only [jK]
  by_cases h1:dG out s=true
  ·have m:=(jm _ _).1 h1
   simp only [h1,Bool.not_true,Bool.false_and,Bool.false_eq_true,if_false]
   obtain⟨k1,k2⟩:=pb out l c a
   refine⟨k1.trans ⟨fun h=>⟨h.1,fun x hx=> ?_⟩,fun h=>⟨h.1,fun x hx=>h.2 x (List.mem_cons_of_mem _ hx)⟩⟩,fun h=> ?_⟩
   ·rcases List.mem_cons.1 hx with rfl | hx
    ·exact m
    ·exact h.2 x hx
   ·obtain⟨g1,g2,g3⟩:=k2 h
    refine⟨g1.imp_right fun h=>⟨List.mem_cons_of_mem _ h.1,h.2⟩,g2,fun x hx hn=> ?_⟩
    rcases List.mem_cons.1 hx with rfl | hx
    ·exact absurd m hn
    ·exact g3 x hx hn
  ·have m:s∉out:=fun m=>h1 ((jm _ _).2 m)
   have np:dG out s=false:=by simpa using h1
   by_cases h2:(!a || bytesLess s c)=true
   ·simp only [np,h2,Bool.not_false,Bool.and_self,if_true]
    obtain⟨k1,k2⟩:=pb out l s true
    refine⟨⟨fun h=>absurd (k1.1 h).1 (by simp),fun h=>absurd (h.2 s List.mem_cons_self) m⟩,fun h=> ?_⟩
    obtain⟨g1,g2,g3⟩:=k2 h
    have g4:=g2 rfl
    refine⟨.inr ?_,fun ha=> ?_,fun x hx hn=> ?_⟩
    ·rcases g1 with ⟨_,e⟩ | g1
     ·rw [e];exact⟨List.mem_cons_self,m⟩
     ·exact⟨List.mem_cons_of_mem _ g1.1,g1.2⟩
    ·have h3:bytesLess s c=true:=by simpa [ha]using h2
     cases hh:bytesLess c (jK out l s true).1
     ·rfl
     ·have:=xb _ _ _ h3 hh;rw [g4]at this;cases this
    ·rcases List.mem_cons.1 hx with rfl | hx
     ·exact g4
     ·exact g3 x hx hn
   ·have rp:(!a || bytesLess s c)=false:=by simpa using h2
    have ha:a=true:=by cases a <;> simp_all
    have h3:bytesLess s c=false:=by cases a <;> simp_all
    simp only [np,rp,Bool.not_false,Bool.and_false,Bool.false_eq_true,if_false]
    obtain⟨k1,k2⟩:=pb out l c a
    refine⟨⟨fun h=>absurd (k1.1 h).1 (by simp [ha]),fun h=>absurd h.1 (by simp [ha])⟩,fun h=> ?_⟩
    obtain⟨g1,g2,g3⟩:=k2 h
    refine⟨g1.imp_right fun h=>⟨List.mem_cons_of_mem _ h.1,h.2⟩,g2,fun x hx hn=> ?_⟩
    rcases List.mem_cons.1 hx with rfl | hx
    ·cases hh:bytesLess x (jK out l c a).1
     ·rfl
     ·have g4:=g2 ha
      rcases rK x c with e | e | e
      ·rw [h3]at e;cases e
      ·subst e;rw [g4]at hh;cases hh
      ·have:=xb _ _ _ e hh;rw [g4]at this;cases this
    ·exact g3 x hx hn
theorem q4 (l:List aD) : ∀ (n:Nat) (out:List aD),uk out→(∀ x∈out,x∈l)→(∀ x∈out,∀ y∈l,y∉out→bytesLess x y=true)→
 uk (lk l n out)∧(∀ x∈lk l n out,x∈l)∧(∀ x∈out,x∈lk l n out)∧((∀ x∈l,x∈lk l n out)∨(lk l n out).length=out.length+n)
 | 0,out,h1,h2,h3=>⟨h1,h2,fun x m=>m, .inr rfl⟩
 | n+1,out,h1,h2,h3=>by
  simp only [lk,Ht]
  obtain⟨k1,k2⟩:=pb out l [] false
  cases hq:(jK out l [] false).2
  ·simp only [Bool.false_eq_true,if_false]
   obtain⟨g1,g2,g3,g4⟩:=q4 l n out h1 h2 h3
   exact⟨g1,g2,g3, .inl fun x m=>g3 x ((k1.1 hq).2 x m)⟩
  ·simp only [if_true]
   obtain⟨g1,_,g3⟩:=k2 hq
   have g1:(jK out l [] false).1∈l∧(jK out l [] false).1∉out:=by
    rcases g1 with ⟨h,_⟩ | g1
    ·cases h
    ·exact g1
   generalize (jK out l [] false).1=c at g1 g3
   obtain⟨r1,r2,r3,r4⟩:=q4 l n (out++ [c])
    (by
     refine List.pairwise_append.2 ⟨h1,by simp,fun x hx y hy=> ?_⟩
     have:y=c:=by simpa using hy
     subst this
     exact h3 x hx y g1.1 g1.2)
    (fun x hx=>by
     rcases List.mem_append.1 hx with hx | hx
     ·exact h2 x hx
     ·have:x=c:=by simpa using hx
      subst this;exact g1.1)
    (fun x hx y hy hn=>by
     have R7:y∉out:=fun m=>hn (List.mem_append_left _ m)
     have hyc:y≠c:=fun e=>hn (List.mem_append_right _ (by simp [e]))
     rcases List.mem_append.1 hx with hx | hx
     ·exact h3 x hx y hy R7
     ·have:x=c:=by simpa using hx
      subst this
      rcases rK x y with h | h | h
      ·exact h
      ·exact absurd h.symm hyc
      ·rw [g3 y hy R7]at h;cases h)
   refine⟨r1,r2,fun x m=>r3 x (List.mem_append_left _ m),r4.imp_right fun h=> ?_⟩
   rw [h];simp;omega
theorem oz : ∀ (a l:List aD),a.Nodup→(∀ x∈a,x∈l)→a.length≤l.length
 | [],l,_,_=>Nat.zero_le _
 | x::a,l,h,hm=>by
  obtain⟨h1,h2⟩:=List.nodup_cons.1 h
  have m:=hm x List.mem_cons_self
  have:=oz a (l.erase x) h2 fun y hy=>(List.mem_erase_of_ne (fun e=>h1 (by rw [← e];exact hy))).2 (hm y (List.mem_cons_of_mem _ hy))
  rw [List.length_erase_of_mem m]at this
  have:0<l.length:=List.length_pos_of_mem m
  simp only [List.length_cons];omega
theorem mW {l:List aD} (h:uk l):l.Nodup:=h.imp fun {a b} h e=>by subst e;rw [rJ]at h;cases h
theorem gC (l:List aD):uk (fN l)∧∀ x,x∈fN l↔x∈l:=by
 obtain⟨h1,h2,h3,h4⟩:=q4 l l.length [] List.Pairwise.nil (fun x m=>(by cases m)) (fun x m=>(by cases m))
 refine⟨h1,fun x=>⟨h2 x,fun m=> ?_⟩⟩
 rcases h4 with h4 | h4
 ·exact h4 x m
 ·refine Classical.byContradiction fun hn=> ?_
  have:=oz (x::lk l l.length []) l (List.nodup_cons.2 ⟨hn,mW h1⟩) fun y hy=>by
   rcases List.mem_cons.1 hy with rfl | hy
   ·exact m
   ·exact h2 y hy
  simp only [List.length_cons,h4,List.length_nil]at this
  omega
theorem Ck (zs:List aD) (hs:zs.Pairwise fun a b=>bytesLess b a=false) : ∀ m,m≤zs.length→
 uk (Lib.compactUpTo zs.toArray m)∧(∀ x,x∈Lib.compactUpTo zs.toArray m↔x∈zs.take m):=by
 intro m
 induction m with
 | zero=>intro _;exact⟨by simp [Lib.compactUpTo,uk],fun x=>by simp [Lib.compactUpTo]⟩
 | succ m ih=>
  intro hm
  obtain⟨h1,h2⟩:=ih (by omega)
  have hz:zs[m]? = some zs[m]:=List.getElem?_eq_getElem (by omega)
  have e1:zs.toArray[m]! = zs[m]:=by simp [hm,Nat.lt_of_succ_le hm]
  have et:zs.take (m+1)=zs.take m++ [zs[m]]:=by rw [List.take_add_one,hz];rfl
  rw [Lib.compactUpTo_succ,e1,et]
  by_cases hk:Lib.keeps zs.toArray m=true
  ·rw [if_pos hk]
   refine⟨List.pairwise_append.2 ⟨h1,by simp,fun x hx y hy=> ?_⟩,fun x=>by rw [List.mem_append,List.mem_append,h2]⟩
   have hy:y=zs[m]:=by simpa using hy
   subst hy
   have hx:=(h2 x).1 hx
   simp only [Lib.keeps,decide_eq_true_eq]at hk
   rcases hk with rfl | hk
   ·simp at hx
   ·have Bk:m - 1<zs.length:=by omega
    have e2:zs.toArray[m - 1]! = zs[m - 1]:=by simp [Bk]
    rw [e1,e2]at hk
    have h0:0<m:=by
     cases m with
     | zero=>simp at hx
     | succ m=>omega
    have hle : ∀ i j (hi:i<zs.length) (hj:j<zs.length),i<j→bytesLess zs[j] zs[i] = false:=fun i j hi hj Ku=>List.pairwise_iff_getElem.1 hs i j hi hj Ku
    have g1:bytesLess zs[m] zs[m - 1] = false:=hle (m - 1) m Bk (by omega) (by omega)
    have g2:bytesLess zs[m - 1] zs[m] = true:=by
     rcases rK zs[m - 1] zs[m]with h | h | h
     ·exact h
     ·exact absurd h.symm hk
     ·rw [g1]at h;cases h
    obtain⟨i,hi,rfl⟩:=List.mem_iff_getElem.1 hx
    rw [List.length_take]at hi
    rw [List.getElem_take]
    by_cases u5:i=m - 1
    ·subst u5;exact g2
    ·have g3:=hle i (m - 1) (by omega) Bk (by omega)
     rcases rK zs[i] zs[m - 1]with h | h | h
     ·exact xb _ _ _ h g2
     ·rw [h];exact g2
     ·rw [g3]at h;cases h
  ·rw [if_neg hk]
   simp only [List.append_nil]
   refine⟨h1,fun x=> ?_⟩
   rw [h2]
   simp only [Lib.keeps,decide_eq_true_eq,not_or,ne_eq,Decidable.not_not]at hk
   obtain⟨k1,k2⟩:=hk
   have Bk:m - 1<zs.length:=by omega
   have e2:zs.toArray[m - 1]! = zs[m - 1]:=by simp [Bk]
   rw [e1,e2]at k2
   simp only [List.mem_append,List.mem_singleton]
   constructor
   ·exact .inl
   ·rintro(h | rfl)
    ·exact h
    ·rw [k2]
     exact List.mem_iff_getElem.2 ⟨m - 1,by rw [List.length_take];omega,by rw [List.getElem_take]⟩
theorem yW (l:List aD):(ja l).Pairwise fun a b=>bytesLess b a=false:=by
 have h:=List.pairwise_mergeSort (le:=fun x y:aD=>decide (x≤y)) (fun a b c h1 h2=> ?_) (fun a b=> ?_) l
 ·refine h.imp fun {a b} h=> ?_
  rw [decide_eq_true_eq]at h
  show Go.Op.bytesLess b a=false
  rw [Go.Proofs.bytesLess_eq]
  simpa using h
 ·rw [decide_eq_true_eq]at h1 h2 ⊢
  exact List.le_trans h1 h2
 ·have:=List.le_total a b
  simpa using this
theorem um (l:List aD):Lib.compact (ja l)=fN l:=by
 obtain⟨h1,h2⟩:=Ck (ja l) (yW l) (ja l).length (Nat.le_refl _)
 obtain⟨h3,h4⟩:=gC l
 refine qZ h1 h3 fun x=> ?_
 rw [h4]
 refine(h2 x).trans ?_
 rw [List.take_length]
 exact(List.mergeSort_perm _ _).mem_iff
end Go.Abs

/-! Tc1 -/

namespace Go.Abs
set_option maxRecDepth 8000
open Go.Proofs
def iN:List Sm→List aD
 | []=> []
 | v::l=>if v.kind==4 then v.proc::iN l else iN l
theorem vk : ∀ l:List Sm,(iN l).length≤l.length
 | []=>Nat.le_refl _
 | v::l=>by
  simp only [iN]
  have:=vk l
  split <;> simp <;> omega
def Pc.calls (f:Pc):List aD:=fN (iN (Sm.fb f.body))
theorem uq {name:aD} : ∀ {l:List Pc} {k:Nat} {f:Pc},gV name l=some f→∃ j,l[j]? = some f∧jl (fun f:Pc=>f.name==name) (k:Int) l=((k+j:Nat):Int)
 | g::l,k,f,h=>by
  simp only [gV]at h
  cases e:(g.name==name)
  ·rw [e]at h
   simp only [Bool.false_eq_true,if_false]at h
   obtain⟨j,h1,h2⟩:=uq (k:=k+1) h
   refine⟨j+1,by simpa using h1, ?_⟩
   simp only [jl,e,Bool.false_eq_true,if_false]
   rw [show((k:Int)+1)=((k+1:Nat):Int)from rfl,h2]
   congr 1;omega
  ·rw [e]at h
   simp only [if_true,Option.some.injEq]at h
   exact⟨0,by simpa using h,by simp [jl,e]⟩
theorem Mz {p:Pg} (h:p.kL) {name:aD} {f:Pc} (hf:p.find name=some f) (s:St):aI Try.prog oJ [.cV (iF p) 0, .str name] s (.slice .shared 1 (f.calls.map encStr)) s:=by
 refine aI.pure ?_ (by simp [D.bE,D.ok,xT]) (by simp only [D.ok,Tag.ok,e9];rfl) s
 obtain⟨rl,qu,vg⟩:=h.procs
 obtain⟨j,hj,sH⟩:=uq (k:=0) hf
 have sH:p.at name=((j:Nat):Int):=by unfold Pg.at;simpa using sH
 have yL:=fun s=>G3 (p:=p) (by omega) name s
 rw [sH]at yL
 obtain⟨it,rG,Hq⟩:=JD hj (by omega)
 have O8:it.length≤900000:=by
  have e:=congrArg List.length rG
  obtain⟨a,b,e',_,_,e3,e4⟩:=(mb p).2 j f hj
  have e5:=mc p
  have e6:=congrArg List.length e3
  rw [e4]at e5
  simp only [List.length_map,List.length_append]at e e5 e6
  omega
 unfold S0
 obtain⟨fn,sU,Bq⟩:=wK
 refine aI.intro ⟨fn,sU,Bq⟩ (Nat.le_of_ble_eq_true rfl) fun B hB=> ?_
 generalize hQ:nE (⟨[],[]⟩:St).au.length (⟨[],[]⟩:St).av.length _ _ (⟨[],[]⟩:St)=Q
 have⟨hD,hJ,hP,hY⟩:=bZ
 refine Sem.oF ?_
 repeat' (first
 | simp only [go_sem,hD,hJ,hP,hY]
 | (with_reducible refine aJ hQ ?_;simp only [ay,az,Option.some.injEq,exists_eq_left',go_sem,hD,hJ,hP,hY];repeat' (first | exact Ok.out | with_reducible refine aM ?_ ?_ | (simp;done))))
 refine Sem.oF ?_
 repeat' (first
 | simp only [go_sem,hD,hJ,hP,hY]
 | (with_reducible refine aJ hQ ?_;simp only [ay,az,Option.some.injEq,exists_eq_left',go_sem,hD,hJ,hP,hY];repeat' (first | exact Ok.out | with_reducible refine aM ?_ ?_ | (simp;done))))
 refine Sem.oF ?_
 repeat' (first
 | simp only [go_sem,hD,hJ,hP,hY]
 | (with_reducible refine CU (yL _) ?_)
 | (with_reducible refine CU (Hq _) ?_)
 | (with_reducible refine aJ hQ ?_;simp only [ay,az,Option.some.injEq,exists_eq_left',go_sem,hD,hJ,hP,hY];repeat' (first | exact Ok.out | with_reducible refine aM ?_ ?_ | (simp;done))))
 refine bp.pB 5 1 rfl ?_
 simp only [go_sem,hD,hJ,hP,hY]
 obtain⟨R,hR⟩ : ∃ R,R=iN (Sm.fb f.body):=⟨_,rfl⟩
 have Pk:R.length≤900000:=by rw [hR, ← rG];have:=vk (it.map Im.s);rw [List.length_map]at this;omega
 refine dD 0 1 (bp.ind (ι:=List Im×Nat×List aD×Nat) (fun i=>it.drop i.2.1=i.1∧i.2.2.1++iN (i.1.map Im.s)=R∧i.2.2.2=i.2.2.1.length) (fun i=>i.1.length)
  (fun i=> [(5, .slice (.tok 0) 1 (i.2.2.1.map encStr)),(12, .slice .shared 17 (it.map ef)),(13, .int .i64 (it.length:Int)),(14, .int .i64 (i.2.1:Int))]) (fun i=>⟨[],[some i.2.2.2]⟩) ?_ (it,0,[],0) ⟨rfl,by rw [hR,rG];rfl,rfl⟩)
 rintro⟨rest,k,out,n⟩ ⟨h1,h2,h3⟩ IH
 dsimp only at h1 h2 h3
 subst h3
 have ln:out.length≤900000:=by have:=congrArg List.length h2;rw [List.length_append]at this;omega
 cases rest with
 | cons a rest=>
  obtain⟨hJ,g2,hD,g4⟩:=drop_cons h1
  have bq:k<4611686018427387904:=by omega
  have hP:(out.length+1)*17≤bF:=by unfold bF;omega
  simp only [List.map_cons,iN]at h2
  rcases Bool.eq_false_or_eq_true (a.s.kind==4)with c1 | c1
  ·simp only [c1,if_true]at h2
   repeat' (first
 | simp only [go_sem,hD,hJ,hP,hY,c1]
 | (with_reducible refine aJ hQ ?_;simp only [ay,az,Option.some.injEq,exists_eq_left',go_sem,hD,hJ,hP,hY];repeat' (first | exact Ok.out | with_reducible refine aM ?_ ?_ | (simp;done))))
   refine dn 0 1 ?_ ?_ (IH (rest,k+1,out++ [a.s.proc],out.length+1) ⟨g2,by rw [← h2];simp,by simp⟩ (Nat.lt_succ_self _))
   ·(simp only [go_sem,hD,hJ,hP,hY,aF bq,List.map_append,List.map_cons,List.map_nil,encStr];try exact bo)
   ·(simp only [go_sem,hD,hJ,hP,hY,aF bq,List.map_append,List.map_cons,List.map_nil,encStr];try exact bo)
  ·simp only [c1,Bool.false_eq_true,if_false]at h2
   repeat' (first
 | simp only [go_sem,hD,hJ,hP,hY,c1]
 | (with_reducible refine aJ hQ ?_;simp only [ay,az,Option.some.injEq,exists_eq_left',go_sem,hD,hJ,hP,hY];repeat' (first | exact Ok.out | with_reducible refine aM ?_ ?_ | (simp;done))))
   refine dn 0 1 ?_ ?_ (IH (rest,k+1,out,_) ⟨g2,h2,rfl⟩ (Nat.lt_succ_self _))
   ·(simp only [go_sem,hD,hJ,hP,hY,aF bq];try exact bo)
   ·(simp only [go_sem,hD,hJ,hP,hY,aF bq];try exact bo)
 | nil=>
  have hD:=drop_nil h1
  simp only [List.map_nil,iN,List.append_nil]at h2
  subst h2
  have w9:(ja out).length=out.length:=List.length_mergeSort out
  repeat' (first
 | simp only [go_sem,hD,hJ,hP,hY]
 | (with_reducible refine aJ hQ ?_;simp only [ay,az,Option.some.injEq,exists_eq_left',go_sem,hD,hJ,hP,hY];repeat' (first | exact Ok.out | with_reducible refine aM ?_ ?_ | (simp;done))))
  refine Sem.seq (Sem.sort (k:=5) (t:=0) (l:=out) hB (by decide) (by decide) (by decide) rfl rfl (by omega) ?_)
  show Sem _ _ _ _ _ _ _
  refine Sem.seq (Sem.compact (k:=5) (t:=0) (l:=ja out) hB (by decide) rfl (by rw [w9];rfl) (by rw [w9];omega) ?_)
  rw [um]
  have Uf:f.calls=fN out:=by unfold Pc.calls;rw [hR]
  rw [Uf]at hQ
  refine gw (ac:= .ret) (Q:=Q) (tm:= [(32, .slice (.tok 0) 1 ((fN out).map encStr)),(4, .slice (.tok 0) 1 ((fN out).map encStr))]) (s:=⟨[],[some (fN out).length]⟩) ?_
  repeat' (first
 | simp only [go_sem,hD,hJ,hP,hY]
 | (with_reducible refine aJ hQ ?_;simp only [ay,az,Option.some.injEq,exists_eq_left',go_sem,hD,hJ,hP,hY];repeat' (first | exact Ok.out | with_reducible refine aM ?_ ?_ | (simp;done))))
end Go.Abs

/-! Tc2 -/

namespace Go.Abs
open Go.Proofs
theorem yX {name:aD} : ∀ {l:List Pc},name∈l.map (·.name)→∃ f,gV name l=some f
 | f::l,h=>by
  simp only [gV]
  cases e:(f.name==name)
  ·simp only [Bool.false_eq_true,if_false]
   refine yX ?_
   rcases List.mem_cons.1 h with h | h
   ·rw [h]at e;simp at e
   ·exact h
  ·exact⟨f,rfl⟩
theorem yY {p:Pg} {f:Pc} {procs:List aD} : ∀ {l:List Sm},uh p f procs l=none→∀ v∈l,v.known p f procs=true
 | v::l,h,w,m=>by
  simp only [uh]at h
  split at h
  ·rename_i e
   rcases List.mem_cons.1 m with rfl | m
   ·exact e
   ·exact yY h w m
  ·cases h
theorem yZ {p:Pg} {procs:List aD} : ∀ {l:List Pc},((pQ p procs l).1==0)=true→∀ f∈l,eQ (p.globals++f.own)=false∧∀ v∈Sm.fb f.body,v.known p f procs=true
 | g::l,h,f,m=>by
  simp only [pQ]at h
  split at h
  ·cases h
  ·rename_i e
   split at h
   ·cases h
   ·rename_i e2
    rcases List.mem_cons.1 m with rfl | m
    ·exact⟨by simpa using e,yY e2⟩
    ·exact yZ h f m
theorem Bw {p:Pg} (h:(p.scope.1==0)=true):eQ p.globals=false∧eQ p.pn=false∧p.rH=false∧∀ f∈p.procs,eQ (p.globals++f.own)=false∧∀ v∈Sm.fb f.body,v.known p f p.pn=true:=by
 unfold Pg.scope at h
 split at h
 ·split at h
  ·cases h
  ·rename_i e
   simp only [Bool.or_eq_true,not_or,Bool.not_eq_true]at e
   exact⟨e.1,e.2.1,e.2.2,yZ h⟩
 ·cases h
theorem q5 {x:aD} : ∀ {l:List Sm},x∈iN l↔∃ v∈l,v.kind=4∧v.proc=x
 | []=>by simp [iN]
 | v::l=>by
  simp only [iN]
  cases e:(v.kind==4)
  ·have:v.kind≠4:=by simpa using e
   simp [this,q5 (l:=l)]
  ·have:v.kind=4:=by simpa using e
   simp only [if_true,List.mem_cons,q5 (l:=l),exists_eq_or_imp,this,true_and]
   constructor
   ·rintro(h | h)
    ·exact .inl h.symm
    ·exact .inr h
   ·rintro(h | h)
    ·exact .inl h.symm
    ·exact .inr h
theorem Hw {f:Pc} {x:aD} : x∈f.calls↔∃ v∈Sm.fb f.body,v.kind=4∧v.proc=x:=by
 unfold Pc.calls;rw [(gC _).2,q5]
theorem vl {p:Pg} (h:(p.scope.1==0)=true) {f:Pc} (hf:f∈p.procs) {x:aD} (m:x∈f.calls) : ∃ g,p.find x=some g:=by
 obtain⟨v,hv,h4,rfl⟩:=Hw.1 m
 have hk:=((Bw h).2.2.2 f hf).2 v hv
 simp only [Sm.known,h4,Bool.and_eq_true,Bool.or_eq_true]at hk
 rcases hk.2 with h | ⟨_,h⟩
 ·simp at h
 ·exact yX ((jm _ _).1 h)
def xc (p:Pg) (x:aD):List aD:=match p.find x with | some f=>f.calls | none=> []
def vO (out:List aD):List aD→List aD
 | []=>out
 | x::l=>vO (uK out x) l
def qA (p:Pg):Nat→Nat→List aD→List aD
 | 0,_,out=>out
 | n+1,i,out=>match out[i]? with
  | some x=>qA p n (i+1) (vO out (xc p x))
  | none=>out
def Pg.work (p:Pg) (name:aD):List aD:=qA p (p.procs.length+1) 0 [name]
def Good (p:Pg) (out:List aD):Prop:=out.Nodup∧∀ x∈out,∃ f,p.find x=some f
theorem Good.len {p:Pg} {out:List aD} (h:Good p out):out.length≤p.procs.length:=by
 have:=oz out p.pn h.1 fun x m=>by
  obtain⟨f,hf⟩:=h.2 x m
  obtain⟨h1,h2⟩:=nQ hf
  rw [← h2];exact List.mem_map_of_mem h1
 simpa [Pg.pn]using this
theorem Good.R8 {p:Pg} {out:List aD} (h:Good p out) {x:aD} (hx : ∃ f,p.find x=some f):Good p (uK out x):=by
 unfold uK
 split
 ·exact h
 ·rename_i e
  have:x∉out:=fun m=>e ((jm _ _).2 m)
  refine⟨List.nodup_append.2 ⟨h.1,by simp,fun a ha b hb e'=> ?_⟩,fun y hy=> ?_⟩
  ·have hbx:b=x:=by simpa using hb
   rw [e',hbx]at ha;exact this ha
  ·rcases List.mem_append.1 hy with hy | hy
   ·exact h.2 y hy
   ·have:y=x:=by simpa using hy
    subst this;exact hx
theorem Good.add {p:Pg} : ∀ {l out:List aD},Good p out→(∀ x∈l,∃ f,p.find x=some f)→Good p (vO out l)
 | [],out,h,_=>h
 | x::l,out,h,hx=>Good.add (l:=l) (out:=uK out x) (Good.R8 h (hx x List.mem_cons_self)) fun y m=>hx y (List.mem_cons_of_mem _ m)
end Go.Abs

/-! Tc3 -/

namespace Go.Abs
open Go.Proofs
def tgB:Bool→Tag
 | true=> .tok 0
 | false=> .full
def tkB:Bool→Nat→List (Option Nat)
 | true,n=> [some n]
 | false,_=> []
end Go.Abs

/-! Bsl -/

namespace Go.Abs
def sq:AI→AI
 | .op d g (.dc z k n ps)=> .op d g (.ph z k n ps)
 | a=>a
section
variable {P:Program}
theorem Cl {nt:Nat} {ops:Array Oper} {i:Nat} {o:Oper} {ai:AI} (hi:ops[i]? = some o) (hc:cI P nt ops o=some ai)
 {M:Map} {s:St} {w:World} {tm:Tm} {act:Act} (r:Rel M s w) (iD:Laid M s w) (ht:iR M s tm act.tmps) {K':Tm→St→Prop} (h:fE P [sq ai] K' tm s)
 {K:Act→World→Prop} {Q:Exit→Act→World→Prop}
 (hK : ∀ d v s1 w1 M1,K' (tm.put ai.dst d) s1→Ext M s w M1 s1 w1→Rel M1 s1 w1→RD M1 s1 d v→K (act.put o.dst v) w1):wpOp P ops Q i K act w:=by
 by_cases hb : ∃ d g z k n ps,ai = .op d g (.dc z k n ps)
 ·obtain⟨d0,g0,z,k,n,ps,rfl⟩:=hb
  obtain⟨g,hg,_,hb⟩:=tG hc
  rw [oi hb]at hK
  simp only [wpOp,hi]
  have skip:K' (tm.put o.dst (.tuple [])) s→K (act.put o.dst Go.undef) w:=fun hk=>hK _ _ _ _ _ hk (Ext.refl M s w) r .undef
  have hd:=oi hb
  simp only [AI.dst]at hd
  subst hd
  have kg:v7 P o=some (.dc z k n ps)∧g0=g:=by
   unfold nS at hb
   split at hb
   ·split at hb
    ·obtain⟨xs,_,h⟩:=map_some hb;cases h
    ·cases hb
   ·obtain⟨xs,_,h⟩:=map_some hb;cases h
   ·split at hb
    ·cases hb
    ·split at hb
     ·rename_i kg
      simp only [Option.some.injEq,AI.op.injEq,true_and]at hb
      obtain⟨h1,h2⟩:=hb
      split at h2
      ·cases h2
      ·cases h2;exact⟨kg,h1.symm⟩
     ·rename_i ao dS kg
      simp only [Option.some.injEq,AI.op.injEq,true_and]at hb
      obtain⟨h1,h2⟩:=hb
      subst h2
      exact⟨kg,h1.symm⟩
     ·cases hb
  obtain⟨kg,rfl⟩:=kg
  simp only [sq,fE]at h
  rcases gq hg ht h with ⟨hw,hA⟩ | ⟨hw,hB⟩
  ·simp only [hw,if_true]
   left
   split at hA
   ·rename_i d s' l9
    obtain⟨v,w',M',cW,r',hv,e'⟩:=rW kg r ht l9
    unfold Oper.wp
    rcases cW with cW | ⟨cW,rfl⟩
    ·rw [cW,Oper.upon_value]
     exact hK _ _ _ _ _ hA e' r' hv
    ·rw [cW,Oper.upon_skip]
     exact hK _ _ _ _ _ hA e' r' hv
   ·exact hA.elim
  ·simp only [hw]
   exact skip hB
 ·have hs:sq ai=ai:=by
   unfold sq
   split
   ·rename_i d g z k n ps;exact absurd ⟨d,g,z,k,n,ps,rfl⟩ hb
   ·rfl
  rw [hs]at h
  exact qM hi hc r iD ht h hK
theorem MA {a:AI} {r:List AI} {K:Tm→St→Prop} {tm:Tm} {s:St} (h:fE P (a::r) K tm s):fE P [a] (fE P r K) tm s:=by
 cases a <;> exact h
theorem za {B:fh} {nt:Nat} {ops:Array Oper} {Q:Exit→Tm→St→Prop} : ∀ (l:List Nat) (ol:List Oper) (is:List AI),l.map (ops[·]?)=ol.map some→mq P nt ops ol=some is→
 ∀ (tm:Tm) (s:St) (act:Act) (w:World),fE P (is.map sq) (Q .normal) tm s→Holds B nt tm s act w→wpOps P ops (lx B nt Q) l act w
 | [],[],is,_,hc,tm,s,act,w,h,hh=>by cases hc;exact⟨tm,s,h,hh⟩
 | [],_::_,_,hl,_,_,_,_,_,_,_=>by simp at hl
 | _::_,[],_,hl,_,_,_,_,_,_,_=>by simp at hl
 | i::l,o::ol,is,hl,hc,tm,s,act,w,h,hh=>by
  simp only [List.map_cons,List.cons.injEq]at hl
  obtain⟨hi,hl⟩:=hl
  unfold mq at hc
  split at hc
  ·rename_i ai FJ h1 h2
   cases hc
   obtain⟨M,e,r,ht,hn,hd⟩:=hh
   have lT:=rm h1
   have hdd:=oj h1
   rw [List.map_cons]at h
   have key:=Cl (K:=fun act w=>wpOps P ops (lx B nt Q) l act w) (Q:=lx B nt Q) hi h1 r (B.laid.ext e) ht (MA h) (fun d v s1 w1 M1 hk e1 r1 hv=>
    za (Q:=Q) l ol FJ hl h2 _ _ _ _ hk (hdd ▸ Holds.put e ht hn hd lT e1 r1 hv))
   simpa only [wpOps,wpOp,hi]using key
  ·cases hc
theorem Sem.swap {B:fh} {nt:Nat} {is:List AI} {Q:Exit→Tm→St→Prop} {tm:Tm} {s:St} (h:iA P B nt (.run (is.map sq)) Q tm s):Sem P B nt (.run is) Q tm s:=by
 intro c hc act w hh
 obtain⟨id,ops,rfl,hi⟩:=iT hc
 refine wp_region ?_
 exact za _ _ is (tB ops) hi tm s act w (kq h) hh
end
end Go.Abs

/-! Tc4 -/

namespace Go.Abs
set_option maxRecDepth 8000
open Go.Proofs
theorem E8 {l:List aD} (h:l.Nodup):ja l=fN l:=by
 refine qZ ?_ (gC l).1 fun x=> ?_
 ·have h1:=yW l
  have h2:(ja l).Nodup:=(List.mergeSort_perm l _).nodup_iff.2 h
  refine(List.pairwise_and_iff.2 ⟨h1,h2⟩).imp fun {a b} Lj=> ?_
  rcases rK a b with e | e | e
  ·exact e
  ·exact absurd e Lj.2
  ·rw [Lj.1]at e;cases e
 ·rw [(gC l).2];exact(List.mergeSort_perm l _).mem_iff
theorem ur {p:Pg} (mX:(p.scope.1==0)=true) : ∀ (n i:Nat) (out:List aD),Good p out→Good p (qA p n i out)
 | 0,i,out,h=>h
 | n+1,i,out,h=>by
  simp only [qA]
  split
  ·rename_i x hx
   obtain⟨g,hg⟩:=h.2 x (List.mem_of_getElem? hx)
   refine ur mX n _ _ (h.add fun y m=> ?_)
   unfold xc at m
   rw [hg]at m
   exact vl mX (nQ hg).1 m
  ·exact h
theorem vP {p:Pg} {name:aD} {f:Pc} (hf:p.find name=some f):Good p [name]:=
 ⟨by simp,fun x m=>by
  have:x=name:=by simpa using m
  subst this;exact⟨f,hf⟩⟩
theorem Re {p:Pg} (h:p.kL) (mX:(p.scope.1==0)=true) {name:aD} {f:Pc} (hf:p.find name=some f) (s:St):aI Try.prog qT [.cV (iF p) 0, .str name] s (.slice .shared 1 ((fN (p.work name)).map encStr)) s:=by
 refine aI.pure ?_ (by simp [D.bE,D.ok,xT]) (by simp only [D.ok,Tag.ok,e9];rfl) s
 obtain⟨rl,qu,vg⟩:=h.procs
 obtain⟨R,hR⟩ : ∃ R,p.work name=R:=⟨_,rfl⟩
 have R9:Good p R:=hR ▸ ur mX _ _ _ (vP hf)
 rw [hR, ← E8 R9.1]
 unfold Pg.work at hR
 have hg0:Good p [name]:=vP hf
 have Pk:=R9.len
 unfold S0
 obtain⟨fn,sU,Bq⟩:=zp
 refine aI.intro ⟨fn,sU,Bq⟩ (Nat.le_of_ble_eq_true rfl) fun B hB=> ?_
 generalize hQ:nE (⟨[],[]⟩:St).au.length (⟨[],[]⟩:St).av.length _ _ (⟨[],[]⟩:St)=Q
 have⟨hD,hJ,hP,hY⟩:=bZ
 refine Sem.oF ?_
 repeat' (first
 | simp only [go_sem,hD,hJ,hP,hY]
 | (with_reducible refine aJ hQ ?_;simp only [ay,az,Option.some.injEq,exists_eq_left',go_sem,hD,hJ,hP,hY];repeat' (first | exact Ok.out | with_reducible refine aM ?_ ?_ | (simp;done))))
 refine Sem.seq (Sem.swap ?_)
 simp only [List.map_cons,List.map_nil,sq]
 repeat' (first
 | simp only [go_sem,hD,hJ,hP,hY]
 | (with_reducible refine aJ hQ ?_;simp only [ay,az,Option.some.injEq,exists_eq_left',go_sem,hD,hJ,hP,hY];repeat' (first | exact Ok.out | with_reducible refine aM ?_ ?_ | (simp;done))))
 refine Sem.oF ?_
 repeat' (first
 | simp only [go_sem,hD,hJ,hP,hY]
 | (with_reducible refine aJ hQ ?_;simp only [ay,az,Option.some.injEq,exists_eq_left',go_sem,hD,hJ,hP,hY];repeat' (first | exact Ok.out | with_reducible refine aM ?_ ?_ | (simp;done))))
 refine dD 0 1 (bp.ind (ι:=Nat×Nat×List aD×Nat) (fun i=>qA p i.1 i.2.1 i.2.2.1=R∧Good p i.2.2.1∧i.1+i.2.1=p.procs.length+1∧i.2.2.2=i.2.2.1.length) (fun i=>i.1)
  (fun i=> [(0, .cV (iF p) 0),(5, .slice (.tok 0) 1 (i.2.2.1.map encStr)),(6, .int .i64 (i.2.1:Int))]) (fun i=>⟨[],[some i.2.2.2]⟩) ?_ (p.procs.length+1,0,[name],1) ⟨hR,hg0,rfl,rfl⟩)
 rintro⟨n,i,out,no⟩ ⟨h1,h2,h3,h4⟩ IH
 dsimp only at h1 h2 h3 h4
 subst h4
 have ln:=h2.len
 cases hx:out[i]? with
 | none=>
  have hD:decide ((i:Int)<(out.length:Int))=false:=by have:=List.getElem?_eq_none_iff.1 hx;simp;omega
  have:R=out:=by
   cases n with
   | zero=>simpa [qA]using h1.symm
   | succ n=>simp only [qA,hx]at h1;exact h1.symm
  subst this
  repeat' (first
 | simp only [go_sem,hD,hJ,hP,hY]
 | (with_reducible refine aJ hQ ?_;simp only [ay,az,Option.some.injEq,exists_eq_left',go_sem,hD,hJ,hP,hY];repeat' (first | exact Ok.out | with_reducible refine aM ?_ ?_ | (simp;done))))
  refine Sem.seq (Sem.sort (k:=5) (t:=0) (l:=R) hB (by decide) (by decide) (by decide) rfl rfl (by omega) ?_)
  refine gw (ac:=RY) (Q:=Q) (tm:= [(5, .slice (.tok 0) 1 ((ja R).map encStr))]) (s:=⟨[],[some R.length]⟩) ?_
  repeat' (first
 | simp only [go_sem,hD,hJ,hP,hY]
 | (with_reducible refine aJ hQ ?_;simp only [ay,az,Option.some.injEq,exists_eq_left',go_sem,hD,hJ,hP,hY];repeat' (first | exact Ok.out | with_reducible refine aM ?_ ?_ | (simp;done))))
 | some x=>
  have mz:=(List.getElem?_eq_some_iff.1 hx).1
  have hD:decide ((i:Int)<(out.length:Int))=true:=by simp;omega
  have u5:i<4611686018427387904:=by omega
  cases n with
  | zero=>omega
  | succ n=>
  simp only [qA,hx]at h1
  obtain⟨g,Bx⟩:=h2.2 x (List.mem_of_getElem? hx)
  have Pl:=(nQ Bx).1
  have Lr:=fun s=>Mz h Bx s
  have hcn:xc p x=g.calls:=by unfold xc;rw [Bx]
  rw [hcn]at h1
  have Sb : ∀ y∈g.calls,∃ f,p.find y=some f:=fun y m=>vl mX Pl m
  have abR:g.calls.length≤p.procs.length:=Good.len ⟨mW (gC _).1,Sb⟩
  obtain⟨W,hW⟩ : ∃ W,vO out g.calls=W:=⟨_,rfl⟩
  rw [hW]at h1
  repeat' (first
 | simp only [go_sem,hD,hJ,hP,hY,hx]
 | (with_reducible refine CU (Lr _) ?_)
 | (with_reducible refine aJ hQ ?_;simp only [ay,az,Option.some.injEq,exists_eq_left',go_sem,hD,hJ,hP,hY];repeat' (first | exact Ok.out | with_reducible refine aM ?_ ?_ | (simp;done))))
  refine dD 0 1 (bp.ind (ι:=List aD×Nat×List aD×Nat) (fun j=>g.calls.drop j.2.1=j.1∧vO j.2.2.1 j.1=W∧Good p j.2.2.1∧j.2.2.2=j.2.2.1.length) (fun j=>j.1.length)
   (fun j=> [(0, .cV (iF p) 0),(5, .slice (.tok 0) 1 (j.2.2.1.map encStr)),(6, .int .i64 (i:Int)),(22, .slice .shared 1 (g.calls.map encStr)),(23, .int .i64 (g.calls.length:Int)),(24, .int .i64 (j.2.1:Int))]) (fun j=>⟨[],[some j.2.2.2]⟩) ?_ (g.calls,0,out,out.length) ⟨rfl,hW,h2,rfl⟩)
  clear hW
  rintro⟨rest,k,bw,n'⟩ ⟨j1,j2,j3,j4⟩ Ln
  dsimp only at j1 j2 j3 j4
  subst j4
  have abS:=j3.len
  cases rest with
  | nil=>
   have Ug:=drop_nil j1
   simp only [vO]at j2
   subst j2
   repeat' (first
 | simp only [go_sem,hD,hJ,hP,hY,Ug]
 | (with_reducible refine aJ hQ ?_;simp only [ay,az,Option.some.injEq,exists_eq_left',go_sem,hD,hJ,hP,hY];repeat' (first | exact Ok.out | with_reducible refine aM ?_ ?_ | (simp;done))))
   refine dn 0 1 ?_ ?_ (IH (n,i+1,bw,bw.length) ⟨h1,j3,by dsimp only;omega,rfl⟩ (Nat.lt_succ_self _))
   ·(simp only [go_sem,hD,hJ,hP,hY,aF u5];try exact bo)
   ·(simp only [go_sem,hD,hJ,hP,hY,aF u5];try exact bo)
  | cons y rest=>
   obtain⟨mU,CO,ui,R3⟩:=drop_cons j1
   have rI:k<4611686018427387904:=by omega
   have hP:(bw.length+1)*17≤bF:=by unfold bF;omega
   have Hx:=fun g s=>gu (l:=bw) (by omega) y g s
   have hy:=Sb y (List.mem_of_getElem? mU)
   have vd:=j3.R8 hy
   simp only [vO]at j2
   rcases Bool.eq_false_or_eq_true (dG bw y)with c1 | c1
   ·simp only [uK,c1,if_true]at j2
    repeat' (first
 | simp only [go_sem,hD,hJ,hP,hY,ui,mU,c1]
 | (with_reducible refine CU (Hx _ _) ?_)
 | (with_reducible refine aJ hQ ?_;simp only [ay,az,Option.some.injEq,exists_eq_left',go_sem,hD,hJ,hP,hY];repeat' (first | exact Ok.out | with_reducible refine aM ?_ ?_ | (simp;done))))
    refine dn 0 1 ?_ ?_ (Ln (rest,k+1,bw,bw.length) ⟨CO,j2,j3,rfl⟩ (Nat.lt_succ_self _))
    ·(simp only [go_sem,hD,hJ,hP,hY,aF rI];try exact bo)
    ·(simp only [go_sem,hD,hJ,hP,hY,aF rI];try exact bo)
   ·simp only [uK,c1,Bool.false_eq_true,if_false]at j2 vd
    repeat' (first
 | simp only [go_sem,hD,hJ,hP,hY,ui,mU,c1]
 | (with_reducible refine CU (Hx _ _) ?_)
 | (with_reducible refine aJ hQ ?_;simp only [ay,az,Option.some.injEq,exists_eq_left',go_sem,hD,hJ,hP,hY];repeat' (first | exact Ok.out | with_reducible refine aM ?_ ?_ | (simp;done))))
    refine dn 0 1 ?_ ?_ (Ln (rest,k+1,bw++ [y],bw.length+1) ⟨CO,j2,vd,by simp⟩ (Nat.lt_succ_self _))
    ·(simp only [go_sem,hD,hJ,hP,hY,aF rI,List.map_append,List.map_cons,List.map_nil,encStr];try exact bo)
    ·(simp only [go_sem,hD,hJ,hP,hY,aF rI,List.map_append,List.map_cons,List.map_nil,encStr];try exact bo)
end Go.Abs

/-! Tc5 -/

namespace Go.Abs
set_option maxRecDepth 8000
open Go.Proofs
theorem By (name:aD) : ∀ l:List Pc,l.any (fun f=>f.name==name)=(gV name l).isSome
 | []=>rfl
 | f::l=>by
  simp only [List.any_cons,gV]
  cases e:(f.name==name)
  ·simp [By name l]
  ·simp
theorem J3 (name:aD) (f:Pc):aI Try.prog kK ([.agg (bL f)]++ [.ptr 0 0]) ⟨[[.str name]],[]⟩ (.bool (f.name==name)) ⟨[[.str name]],[]⟩:=by
 show aI Try.prog kK [.agg (bL f), .ptr 0 0] _ _ _
 refine aI.go uT rfl fun B Q hB hQ=> ?_
 have⟨hD,hJ,hP,hY⟩:=bZ
 repeat' (first
 | simp only [go_sem,hD,hJ,hP,hY]
 | (with_reducible refine aJ hQ ?_;simp only [ay,az,Option.some.injEq,exists_eq_left',go_sem,hD,hJ,hP,hY];repeat' (first | exact Ok.out | with_reducible refine aM ?_ ?_ | (simp;done))))
def Pg.q6 (p:Pg) (name:aD):Option Pc:=if p.scope.1==0 then p.find name else none
theorem J4 {p:Pg} (h:p.kL) (name:aD) (s:St):aI Try.prog oI [.agg (bN p), .str name] s (.bool (p.q6 name).isSome) s:=by
 refine aI.pure ?_ (by simp [D.bE,D.ok,jh]) rfl s
 obtain⟨rl,qu,vg⟩:=h.procs
 have og:=fun s=>vL h s
 have hi:=fun {s:St} {o:Nat} (ho:s.au[o]? = some [.str name])=>tY (s4 (l:=p.procs) (f:=kK) (row:= [.str name]) (b:=fun f:Pc=>f.name==name) (by omega) rfl (by with_unfolding_all rfl) (fun x _=>J3 name x)) rfl (zM _) rfl ho
 have fW:=fun {s:St} {o:Nat} (ho:s.au[o]? = some [.str name])=>(show aI Try.prog eO [.slice .shared 5 (p.procs.map bL), .eW 64 [.ptr o 0]] s (.bool (p.procs.any fun f:Pc=>f.name==name)) s from hi ho)
 simp only [By]at fW
 unfold Pg.q6 Pg.find
 unfold S0
 rcases Bool.eq_false_or_eq_true (p.scope.1==0)with b1 | b1
 ·simp only [b1,if_true]
  refine aI.go qp rfl fun B Q hB hQ=> ?_
  have⟨hD,hJ,hP,hY⟩:=bZ
  repeat' (first
 | simp only [go_sem,hD,hJ,hP,hY,b1]
 | (with_reducible refine CU (og _) ?_)
 | (with_reducible refine CU (fW (by with_unfolding_all rfl)) ?_)
 | (with_reducible refine aJ hQ ?_;simp only [ay,az,Option.some.injEq,exists_eq_left',go_sem,hD,hJ,hP,hY];repeat' (first | exact Ok.out | with_reducible refine aM ?_ ?_ | (simp;done))))
 ·simp only [b1,Bool.false_eq_true,if_false,Option.isSome_none]
  refine aI.go qp rfl fun B Q hB hQ=> ?_
  have⟨hD,hJ,hP,hY⟩:=bZ
  repeat' (first
 | simp only [go_sem,hD,hJ,hP,hY,b1]
 | (with_reducible refine CU (og _) ?_)
 | (with_reducible refine CU (fW (by with_unfolding_all rfl)) ?_)
 | (with_reducible refine aJ hQ ?_;simp only [ay,az,Option.some.injEq,exists_eq_left',go_sem,hD,hJ,hP,hY];repeat' (first | exact Ok.out | with_reducible refine aM ?_ ?_ | (simp;done))))
def Pg.aaR (p:Pg) (name:aD):List aD:=match p.q6 name with | some f=>f.calls | none=> []
def Pg.Uh (p:Pg) (name:aD):List aD:=match p.q6 name with | some _=>fN (p.work name) | none=> []
theorem uu {p:Pg} {name:aD} {f:Pc} (h:p.q6 name=some f):(p.scope.1==0)=true∧p.find name=some f:=by
 unfold Pg.q6 at h
 split at h
 ·exact⟨by assumption,h⟩
 ·cases h
end Go.Abs
