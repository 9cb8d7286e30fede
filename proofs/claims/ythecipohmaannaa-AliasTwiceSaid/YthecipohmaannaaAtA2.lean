/-
  What is proved here: part 2 of the road to the claim (Flat2, Flat3, Sl1, MirFlat2, Sl2, TMay1, TMay2, RefMay3, RefMay4, TMay3, TMay4, MayFine, MayEq, Nm1, Nm2, Nm3, MayEq2, Tree1, Tree2, Sc1, Sc2, Sc3, ScP, Sc4, Rng, FineM, Sc5, Ar1, Ar2, Ar3, Srt1, Shelf, SortR, SrtP, Tc1, Tc2, Tc3, Bsl, Tc4, Tc5).
  No conditions.
-/
import Derived.Test.YthecipohmaannaaAtA1
import Derived.Shelf.Small.Bits
import Derived.Shelf.Strconv.Itoa0
import Derived.Shelf.Sort.Plain
import Derived.Shelf.Slices.Turned
import Derived.Shelf.Slices.CompactS
import Derived.Shelf.Slices.Cells
import Derived.Shelf.Slices.In.SortNone
import Derived.Test.YthecipohmaannaaProg
import Derived.Sort.Walk0

set_option linter.unusedSimpArgs false
set_option linter.unusedVariables false

/-! Flat2 -/

namespace Go.Abs
set_option maxRecDepth 8000
open Go.Proofs
abbrev fL (g ps:D) (L:List Im) (lo hi:List Int):List D:= [g,ps, .slice (.tok 0) 17 (L.map ey), .slice (.tok 1) 1 (lo.map fB), .slice (.tok 2) 1 (hi.map fB)]
abbrev K5 (proc up next loop:Int):List D:= [.int .i64 0, .int .i64 0, .slice .full 0 [], .str [], .str [], .int .i64 0, .int .i64 0, .str [], .slice .full 0 [], .bool false, .slice .full 0 [], .slice .full 0 [], .slice .full 0 [], .int .i64 proc, .int .i64 up, .int .i64 next, .int .i64 loop]
theorem aI.SL {P:Program} {f:Nat} {args:List D} {g ps:D} {L L':List Im} {lo hi zp gj:List Int} {a b c a' b' c':Option Nat}
 (h:aI P f (.ptr 0 0::args) ⟨[fL g ps L lo hi],[a,b,c]⟩ (.tuple []) ⟨[fL g ps L' zp gj],[a',b',c']⟩)
 (ha:D.bI 0 0 args=true) (hg:D.ok 0 0 g=true) (hp:D.ok 0 0 ps=true)
 {s:St} {o:Nat} (ho:s.av[o]? = some (fL g ps L lo hi)) (ht:s.aw = [a,b,c]):aI P f (.ptr o 0::args) s (.tuple []) ⟨s.av.set o (fL g ps L' zp gj),[a',b',c']⟩:=by
 have hr : ∀ (L:List Im) (lo hi:List Int),D.fm [o] [0,1,2] (fL g ps L lo hi)=fL g ps L lo hi:=fun L lo hi=>by
  simp [D.fm,D.db,Tag.db,n7 _ _ _ hg,n7 _ _ _ hp,kj _ _ _ (A2 L),kj _ _ _ (ql lo),kj _ _ _ (ql hi)]
 have hk : ∀ (L:List Im) (lo hi:List Int),D.bI 1 3 (fL g ps L lo hi)=true:=fun L lo hi=>by
  simp [D.bI,D.ok,Tag.ok,yz (Nat.zero_le 1) (Nat.zero_le 3) _ hg,yz (Nat.zero_le 1) (Nat.zero_le 3) _ hp,mA (Nat.zero_le 1) (Nat.zero_le 3) _ (A2 L),mA (Nat.zero_le 1) (Nat.zero_le 3) _ (ql lo),mA (Nat.zero_le 1) (Nat.zero_le 3) _ (ql hi)]
 refine dJ.frame [o] [0,1,2] h (by simp) (by decide) (by simpa using (List.getElem?_eq_some_iff.1 ho).1) (by rw [ht];simp) rfl (fun i o' ds e1 e2=> ?_) rfl (fun i t' e1=> ?_)
  (by simp [D.fm,D.db,fp _ _ _ ha])
  (by simp [D.bI,D.ok,gZ (Nat.zero_le 1) (Nat.zero_le 3) _ ha]) ?_
 ·cases i with
  | zero=>simp only [List.getElem?_cons_zero,Option.some.injEq]at e1 e2;subst e1;subst e2;exact⟨by rw [hr];exact ho,hk L lo hi⟩
  | succ i=>simp at e1
 ·rw [ht]
  match i,e1 with
  | 0,e1=>simp at e1;subst e1;rfl
  | 1,e1=>simp at e1;subst e1;rfl
  | 2,e1=>simp at e1;subst e1;rfl
  | i+3,e1=>simp at e1
 ·rintro _ _ ⟨rfl,rfl⟩
  refine⟨by simp [D.back,D.db,D.fm], ?_⟩
  have:=hr L' zp gj
  simp [St.back,iS,ji,this,ht]
abbrev MN (N:Nat):Prop:=∀ (l:List Sm) (proc up next loop:Int) (out:List Im) (g ps:D) (lo hi:List Int) (b c:Option Nat),Sm.aO l<N→out.length+Sm.gm l<1000000000→D.ok 0 0 g=true→D.ok 0 0 ps=true→
 ∀ {s:St} {o:Nat},s.av[o]? = some (fL g ps out lo hi)→s.aw = [some out.length,b,c]→
 aI Try.prog gE [.ptr o 0, .slice .shared 13 (l.map a7), .agg (K5 proc up next loop)] s (.tuple []) ⟨s.av.set o (fL g ps (Im.rows proc up next loop out l) lo hi),[some (Im.rows proc up next loop out l).length,b,c]⟩
theorem SM {N:Nat} (ih:MN N) {l:List Sm} {proc up next loop:Int} {out:List Im} {g ps:D} {lo hi:List Int} {b c:Option Nat} (hs:Sm.aO l<N+1) (hc:out.length+Sm.gm l<1000000000) (hg:D.ok 0 0 g=true) (hp:D.ok 0 0 ps=true) (hN:N<1000000000) :
 aI Try.prog gE [.ptr 0 0, .slice .shared 13 (l.map a7), .agg (K5 proc up next loop)] ⟨[fL g ps out lo hi],[some out.length,b,c]⟩ (.tuple []) ⟨[fL g ps (Im.rows proc up next loop out l) lo hi],[some (Im.rows proc up next loop out l).length,b,c]⟩:=by
 obtain⟨R,hR⟩ : ∃ R,R=Im.rows proc up next loop out l:=⟨_,rfl⟩
 have hlR:R.length=out.length+Sm.gm l:=by rw [hR,e8]
 rw [← hR]
 have k1 : ∀ n m,D.fg n m g=g:=fun n m=>FZ n m _ hg
 have k2 : ∀ n m,D.fg n m ps=ps:=fun n m=>FZ n m _ hp
 refine aI.go uL rfl fun B Q hB hQ=> ?_
 have⟨hD,hJ,hP,hZ⟩:=b7
 repeat' (first
 | simp only [go_sem,hD,hJ,hP,hZ,k1,k2]
 | (with_reducible first | refine cm fun hc=> ?_ | refine cq fun hc=> ?_ | refine cr (fun hc=> ?_) fun hc=> ?_) <;> (try simp only [hc,bs, ↓reduceIte]at h) <;> try simp only [hc]
 | (with_reducible refine aJ hQ ?_;simp only [az,aB,cY,cZ,go_sem,hD,hJ,hP,hZ,k1,k2];repeat' (first | exact Ok.out | with_reducible refine aR ?_ ?_ | (simp;done))))
 refine dt 2 3 ?_ ?_ (bq.ind (ι:=List Sm×Nat×List Im) (fun i=>l.drop i.2.1=i.1∧Im.rows proc up next loop i.2.2 i.1=R∧i.2.2.length+Sm.gm i.1=out.length+Sm.gm l) (fun i=>i.1.length)
  (fun i=> [(0, .ptr 0 0),(1, .slice .shared 13 (l.map a7)),(5, .ptr 1 0),(11, .slice .shared 13 (l.map a7)),(12, .int .i64 (l.length:Int)),(13, .int .i64 (i.2.1:Int))]) (fun i=>⟨[fL g ps i.2.2 lo hi,K5 proc up next loop],[some i.2.2.length,b,c]⟩) ?_ (l,0,out) ⟨rfl,hR.symm,rfl⟩)
 ·(simp only [go_sem,hD,hJ,hP,hZ,k1,k2];try exact br)
 ·(simp only [go_sem,hD,hJ,hP,hZ,k1,k2];try exact br)
 rintro⟨rest,k,bD⟩ ⟨h1,h2,h3⟩ IH
 dsimp only at h1 h2 h3
 have hlen:l.length<1000000000:=by have:=Sm.cH l;omega
 cases rest with
 | nil=>
  have hD:=drop_nil h1
  simp only [Im.rows]at h2
  subst h2
  repeat' (first
 | simp only [go_sem,hD,hJ,hP,hZ,k1,k2]
 | (with_reducible first | refine cm fun hc=> ?_ | refine cq fun hc=> ?_ | refine cr (fun hc=> ?_) fun hc=> ?_) <;> (try simp only [hc,bs, ↓reduceIte]at h) <;> try simp only [hc]
 | (with_reducible refine aJ hQ ?_;simp only [az,aB,cY,cZ,go_sem,hD,hJ,hP,hZ,k1,k2];repeat' (first | exact Ok.out | with_reducible refine aR ?_ ?_ | (simp;done))))
 | cons v rest=>
  obtain⟨hJ,g2,hD,g4⟩:=drop_cons h1
  have bE:k<4611686018427387904:=by omega
  have hv:=Sm.bW (List.mem_of_getElem? hJ)
  have lr:Sm.aO v.aY<N∧Sm.aO v.aM<N∧v.gI=1+Sm.gm v.aY+Sm.gm v.aM:=by
   obtain⟨_,_,_,_,_,_,_,_,_,_⟩:=v
   simp only [Sm.size]at hv
   exact⟨by dsimp only;omega,by dsimp only;omega,rfl⟩
  obtain⟨xk,Bq,hv3⟩:=lr
  simp only [Sm.gm]at h3
  simp only [Im.rows,Im.Qa]at h2
  have hP:(bD.length+1)*241≤bt:=by unfold bt;omega
  have DU:IntKind.wrap .i64 ((bD.length:Int)+1)=(bD.length:Int)+1:=dk (by omega) (by omega)
  have qU:IntKind.wrap .i64 ((k:Int)+1)=((k+1:Nat):Int):=by rw [dk] <;> omega
  have MO:IntKind.wrap .i64 ((bD.length:Int)+1+(v.gI:Int))=(bD.length:Int)+1+(v.gI:Int):=dk (by omega) (by omega)
  have dC:=fun s=>QA (v:=v) (by omega) s
  simp only [bJ]at dC
  have GZ:rest.length=l.length - (k+1):=by rw [← g2,List.length_drop]
  by_cases adM:k+1<l.length
  ·have d1:decide (((k+1:Nat):Int)<(l.length:Int))=true:=by simp;omega
   have e1:(rest.length=0)=False:=by simp;intro h;rw [h]at GZ;simp at GZ;omega
   by_cases Ij:v.kind=6
   ·have d2:(v.kind==6)=true:=by simp [Ij]
    simp only [e1,d2, ↓reduceIte,Bool.false_eq_true]at h2
    have f1:=fun {s:St} {o:Nat}=>@ih v.aY proc ((bD.length:Int)+1) ((bD.length:Int)+1) ((bD.length:Int)+1) (bD++ [⟨v,proc,up,((bD.length:Int)+1+(v.gI:Int)),loop⟩]) g ps lo hi b c xk (by simp;omega) hg hp s o
    have f2:=fun {s:St} {o:Nat}=>@ih v.aM proc ((bD.length:Int)+1) ((bD.length:Int)+1) ((bD.length:Int)+1) _ g ps lo hi b c Bq (by rw [e8 proc ((bD.length:Int)+1) ((bD.length:Int)+1) ((bD.length:Int)+1) (bD++ [⟨v,proc,up,((bD.length:Int)+1+(v.gI:Int)),loop⟩]) v.aY];simp;omega) hg hp s o
    have hl:(Im.rows proc ((bD.length:Int)+1) ((bD.length:Int)+1) ((bD.length:Int)+1) (Im.rows proc ((bD.length:Int)+1) ((bD.length:Int)+1) ((bD.length:Int)+1) (bD++ [⟨v,proc,up,((bD.length:Int)+1+(v.gI:Int)),loop⟩]) v.aY) v.aM).length=bD.length+v.gI:=by rw [e8,e8];simp;omega
    simp only [fL,List.map_append,List.map_cons,List.map_nil,Gd,List.length_append,List.length_cons,List.length_nil]at f1
    repeat' (first
 | simp only [go_sem,hD,hJ,hP,hZ,k1,k2,DU,qU,MO,d1,d2,bJ]
 | (with_reducible refine CU (dC _) ?_)
 | (with_reducible refine CU (f1 (by with_unfolding_all rfl) (by with_unfolding_all rfl)) ?_)
 | (with_reducible refine CU (f2 (by with_unfolding_all rfl) (by with_unfolding_all rfl)) ?_)
 | (with_reducible refine aJ hQ ?_;simp only [az,aB,cY,cZ,go_sem,hD,hJ,hP,hZ];repeat' (first | exact Ok.out | with_reducible refine aR ?_ ?_ | (simp;done))))
    refine dt 2 3 ?_ ?_ (IH (rest,k+1,_) ⟨g2,h2,by dsimp only;rw [hl];omega⟩ (Nat.lt_succ_self _))
    ·(simp only [go_sem,hD,hJ,hP,hZ,qU,k1,k2];try exact br)
    ·(simp only [go_sem,hD,hJ,hP,hZ,qU,k1,k2];try exact br)
   ·have d2:(v.kind==6)=false:=by simp [Ij]
    simp only [e1,d2, ↓reduceIte,Bool.false_eq_true]at h2
    have f1:=fun {s:St} {o:Nat}=>@ih v.aY proc ((bD.length:Int)+1) ((bD.length:Int)+1+(v.gI:Int)) loop (bD++ [⟨v,proc,up,((bD.length:Int)+1+(v.gI:Int)),loop⟩]) g ps lo hi b c xk (by simp;omega) hg hp s o
    have f2:=fun {s:St} {o:Nat}=>@ih v.aM proc ((bD.length:Int)+1) ((bD.length:Int)+1+(v.gI:Int)) loop _ g ps lo hi b c Bq (by rw [e8 proc ((bD.length:Int)+1) ((bD.length:Int)+1+(v.gI:Int)) loop (bD++ [⟨v,proc,up,((bD.length:Int)+1+(v.gI:Int)),loop⟩]) v.aY];simp;omega) hg hp s o
    have hl:(Im.rows proc ((bD.length:Int)+1) ((bD.length:Int)+1+(v.gI:Int)) loop (Im.rows proc ((bD.length:Int)+1) ((bD.length:Int)+1+(v.gI:Int)) loop (bD++ [⟨v,proc,up,((bD.length:Int)+1+(v.gI:Int)),loop⟩]) v.aY) v.aM).length=bD.length+v.gI:=by rw [e8,e8];simp;omega
    simp only [fL,List.map_append,List.map_cons,List.map_nil,Gd,List.length_append,List.length_cons,List.length_nil]at f1
    repeat' (first
 | simp only [go_sem,hD,hJ,hP,hZ,k1,k2,DU,qU,MO,d1,d2,bJ]
 | (with_reducible refine CU (dC _) ?_)
 | (with_reducible refine CU (f1 (by with_unfolding_all rfl) (by with_unfolding_all rfl)) ?_)
 | (with_reducible refine CU (f2 (by with_unfolding_all rfl) (by with_unfolding_all rfl)) ?_)
 | (with_reducible refine aJ hQ ?_;simp only [az,aB,cY,cZ,go_sem,hD,hJ,hP,hZ];repeat' (first | exact Ok.out | with_reducible refine aR ?_ ?_ | (simp;done))))
    refine dt 2 3 ?_ ?_ (IH (rest,k+1,_) ⟨g2,h2,by dsimp only;rw [hl];omega⟩ (Nat.lt_succ_self _))
    ·(simp only [go_sem,hD,hJ,hP,hZ,qU,k1,k2];try exact br)
    ·(simp only [go_sem,hD,hJ,hP,hZ,qU,k1,k2];try exact br)
  ·have d1:decide (((k+1:Nat):Int)<(l.length:Int))=false:=by simp;omega
   have e1:(rest.length=0)=True:=by simp only [eq_iff_iff,iff_true];omega
   by_cases Ij:v.kind=6
   ·have d2:(v.kind==6)=true:=by simp [Ij]
    simp only [e1,d2, ↓reduceIte,Bool.false_eq_true]at h2
    have f1:=fun {s:St} {o:Nat}=>@ih v.aY proc ((bD.length:Int)+1) ((bD.length:Int)+1) ((bD.length:Int)+1) (bD++ [⟨v,proc,up,next,loop⟩]) g ps lo hi b c xk (by simp;omega) hg hp s o
    have f2:=fun {s:St} {o:Nat}=>@ih v.aM proc ((bD.length:Int)+1) ((bD.length:Int)+1) ((bD.length:Int)+1) _ g ps lo hi b c Bq (by rw [e8 proc ((bD.length:Int)+1) ((bD.length:Int)+1) ((bD.length:Int)+1) (bD++ [⟨v,proc,up,next,loop⟩]) v.aY];simp;omega) hg hp s o
    have hl:(Im.rows proc ((bD.length:Int)+1) ((bD.length:Int)+1) ((bD.length:Int)+1) (Im.rows proc ((bD.length:Int)+1) ((bD.length:Int)+1) ((bD.length:Int)+1) (bD++ [⟨v,proc,up,next,loop⟩]) v.aY) v.aM).length=bD.length+v.gI:=by rw [e8,e8];simp;omega
    simp only [fL,List.map_append,List.map_cons,List.map_nil,Gd,List.length_append,List.length_cons,List.length_nil]at f1
    repeat' (first
 | simp only [go_sem,hD,hJ,hP,hZ,k1,k2,DU,qU,MO,d1,d2,bJ]
 | (with_reducible refine CU (dC _) ?_)
 | (with_reducible refine CU (f1 (by with_unfolding_all rfl) (by with_unfolding_all rfl)) ?_)
 | (with_reducible refine CU (f2 (by with_unfolding_all rfl) (by with_unfolding_all rfl)) ?_)
 | (with_reducible refine aJ hQ ?_;simp only [az,aB,cY,cZ,go_sem,hD,hJ,hP,hZ];repeat' (first | exact Ok.out | with_reducible refine aR ?_ ?_ | (simp;done))))
    refine dt 2 3 ?_ ?_ (IH (rest,k+1,_) ⟨g2,h2,by dsimp only;rw [hl];omega⟩ (Nat.lt_succ_self _))
    ·(simp only [go_sem,hD,hJ,hP,hZ,qU,k1,k2];try exact br)
    ·(simp only [go_sem,hD,hJ,hP,hZ,qU,k1,k2];try exact br)
   ·have d2:(v.kind==6)=false:=by simp [Ij]
    simp only [e1,d2, ↓reduceIte,Bool.false_eq_true]at h2
    have f1:=fun {s:St} {o:Nat}=>@ih v.aY proc ((bD.length:Int)+1) next loop (bD++ [⟨v,proc,up,next,loop⟩]) g ps lo hi b c xk (by simp;omega) hg hp s o
    have f2:=fun {s:St} {o:Nat}=>@ih v.aM proc ((bD.length:Int)+1) next loop _ g ps lo hi b c Bq (by rw [e8 proc ((bD.length:Int)+1) next loop (bD++ [⟨v,proc,up,next,loop⟩]) v.aY];simp;omega) hg hp s o
    have hl:(Im.rows proc ((bD.length:Int)+1) next loop (Im.rows proc ((bD.length:Int)+1) next loop (bD++ [⟨v,proc,up,next,loop⟩]) v.aY) v.aM).length=bD.length+v.gI:=by rw [e8,e8];simp;omega
    simp only [fL,List.map_append,List.map_cons,List.map_nil,Gd,List.length_append,List.length_cons,List.length_nil]at f1
    repeat' (first
 | simp only [go_sem,hD,hJ,hP,hZ,k1,k2,DU,qU,MO,d1,d2,bJ]
 | (with_reducible refine CU (dC _) ?_)
 | (with_reducible refine CU (f1 (by with_unfolding_all rfl) (by with_unfolding_all rfl)) ?_)
 | (with_reducible refine CU (f2 (by with_unfolding_all rfl) (by with_unfolding_all rfl)) ?_)
 | (with_reducible refine aJ hQ ?_;simp only [az,aB,cY,cZ,go_sem,hD,hJ,hP,hZ];repeat' (first | exact Ok.out | with_reducible refine aR ?_ ?_ | (simp;done))))
    refine dt 2 3 ?_ ?_ (IH (rest,k+1,_) ⟨g2,h2,by dsimp only;rw [hl];omega⟩ (Nat.lt_succ_self _))
    ·(simp only [go_sem,hD,hJ,hP,hZ,qU,k1,k2];try exact br)
    ·(simp only [go_sem,hD,hJ,hP,hZ,qU,k1,k2];try exact br)
theorem N4 : ∀ N,N<1000000000→MN N:=by
 intro N
 induction N with
 | zero=>exact fun _ l proc up next loop out g ps lo hi b c h=>absurd h (Nat.not_lt_zero _)
 | succ N ih=>
  intro h l proc up next loop out g ps lo hi b c hs hc hg hp s o ho ht
  exact(SM (ih (by omega)) hs hc hg hp (by omega)).SL (by simp [D.bI,D.ok,Tag.ok,nh,D.ig]) hg hp ho ht
end Go.Abs

/-! Flat3 -/

namespace Go.Abs
set_option maxRecDepth 8000
open Go.Proofs
def ja (p:Pg):List D:= [.slice .shared 1 (p.globals.map encStr), .slice .shared 5 (p.procs.map bT), .slice .shared 17 (p.ef.L.map ey), .slice .shared 1 (p.ef.lo.map fB), .slice .shared 1 (p.ef.hi.map fB)]
theorem sS (p:Pg):ja p = [.slice .shared 1 (p.globals.map encStr), .slice .shared 5 (p.procs.map bT), .slice .shared 17 (p.ef.L.map ey), .slice .shared 1 (p.ef.lo.map fB), .slice .shared 1 (p.ef.hi.map fB)]:=nd rfl
theorem yQ (p:Pg):D.bI 0 0 (ja p)=true:=by simp [ja,D.bI,D.ok,Tag.ok,fc,A1,A2,ql]
theorem xH (p:Pg):bP p = [.slice .shared 1 (p.globals.map encStr), .slice .shared 5 (p.procs.map bT)]:=nd rfl
theorem SN {p:Pg} (hs:Pc.aO p.procs<1000000000):aI Try.prog kr [.agg (bP p)] S0 (.ptr 1 0) ⟨[bP p,fL (.slice .shared 1 (p.globals.map encStr)) (.slice .shared 5 (p.procs.map bT)) p.ef.L p.ef.lo p.ef.hi],[some p.ef.L.length,some p.ef.lo.length,some p.ef.hi.length]⟩:=by
 have hlen:p.procs.length<1000000000:=by have:=Pc.cH p.procs;omega
 obtain⟨R,hR⟩ : ∃ R,R=p.ef:=⟨_,rfl⟩
 have TS:=hR
 unfold Pg.ef at TS
 unfold S0
 rw [xH, ← hR]
 refine aI.goK 2 3 (Nat.zero_le _) (Nat.zero_le _) B9 rfl fun B Q hB hQ=> ?_
 have⟨hD,hJ,hP,hZ⟩:=b7
 repeat' (first
 | simp only [go_sem,hD,hJ,hP,hZ,xH]
 | (with_reducible refine aJ hQ ?_;simp only [az,aB,Option.some.injEq,exists_eq_left',go_sem,hD,hJ,hP,hZ];repeat' (first | exact Ok.out | with_reducible refine aR ?_ ?_ | (simp;done))))
 refine bq.yD 1 2 17 rfl rfl ?_
 simp only [go_sem,hD,hJ,hP,hZ]
 refine bq.yD 1 3 1 rfl rfl ?_
 simp only [go_sem,hD,hJ,hP,hZ]
 refine bq.yD 1 4 1 rfl rfl ?_
 simp only [go_sem,hD,hJ,hP,hZ]
 refine dt 2 3 ?_ ?_ (bq.ind (ι:=List Pc×Nat×Sh×Nat×Nat) (fun i=>p.procs.drop i.2.1=i.1∧Sh.go i.2.1 i.2.2.1 i.1=R∧i.2.2.1.L.length+Pc.aO i.1≤Pc.aO p.procs∧i.2.2.1.lo.length=i.2.1∧i.2.2.1.hi.length=i.2.1∧i.2.2.2.1=i.2.2.1.lo.length∧i.2.2.2.2=i.2.2.1.hi.length) (fun i=>i.1.length)
  (fun i=> [(1, .ptr 0 0),(3, .ptr 1 0),(10, .slice .shared 5 (p.procs.map bT)),(11, .int .i64 (p.procs.length:Int)),(12, .int .i64 (i.2.1:Int))]) (fun i=>⟨[[.slice .shared 1 (p.globals.map encStr), .slice .shared 5 (p.procs.map bT)],fL (.slice .shared 1 (p.globals.map encStr)) (.slice .shared 5 (p.procs.map bT)) i.2.2.1.L i.2.2.1.lo i.2.2.1.hi],[some i.2.2.1.L.length,some i.2.2.2.1,some i.2.2.2.2]⟩) ?_ (p.procs,0,⟨[],[],[]⟩,0,0) ⟨rfl,TS.symm,by simp,rfl,rfl,rfl,rfl⟩)
 ·(simp only [go_sem,hD,hJ,hP,hZ,fL];try exact br)
 ·(simp only [go_sem,hD,hJ,hP,hZ,fL];try exact br)
 rintro⟨rest,k,h,n1,n2⟩ ⟨h1,h2,h3,h4,h5,h6,h7⟩ IH
 dsimp only at h1 h2 h3 h4 h5 h6 h7
 subst h6 h7
 cases rest with
 | nil=>
  have hD:=drop_nil h1
  simp only [Sh.go]at h2
  rw [← h2]at hQ
  repeat' (first
 | simp only [go_sem,hD,hJ,hP,hZ,fL]
 | (with_reducible refine aJ hQ ?_;simp only [az,aB,Option.some.injEq,exists_eq_left',go_sem,hD,hJ,hP,hZ];repeat' (first | exact Ok.out | with_reducible refine aR ?_ ?_ | (simp;done))))
 | cons f rest=>
  obtain⟨hJ,g2,hD,g4⟩:=drop_cons h1
  have bE:k<4611686018427387904:=by omega
  simp only [Pc.aO,Pc.size]at h3
  simp only [Sh.go]at h2
  have c1:=lA f.body
  have hP:(h.lo.length+1)*9≤bt:=by unfold bt;omega
  have Wa:(h.hi.length+1)*9≤bt:=by unfold bt;omega
  have DU:IntKind.wrap .i64 ((h.L.length:Int)+1)=(h.L.length:Int)+1:=dk (by omega) (by omega)
  have hl:(Im.rows (k:Int) 0 (-1) 0 h.L f.body).length=h.L.length+Sm.gm f.body:=e8 ..
  have qU:IntKind.wrap .i64 (((Im.rows (k:Int) 0 (-1) 0 h.L f.body).length:Int)+1)=((Im.rows (k:Int) 0 (-1) 0 h.L f.body).length:Int)+1:=dk (by omega) (by omega)
  have hr:=fun {s:St} {o:Nat}=>@N4 (Sm.aO f.body+1) (by omega) f.body (k:Int) 0 (-1) 0 h.L (.slice .shared 1 (p.globals.map encStr)) (.slice .shared 5 (p.procs.map bT)) (h.lo++ [(h.L.length:Int)+1]) h.hi (some (h.lo.length+1)) (some h.hi.length) (Nat.lt_succ_self _) (by omega) (by simp [D.ok,Tag.ok,fc]) (by simp [D.ok,Tag.ok,A1]) s o
  simp only [fL,List.map_append,List.map_cons,List.map_nil,fB]at hr
  repeat' (first
 | simp only [go_sem,hD,hJ,hP,hZ,DU,qU,Wa,fL]
 | (with_reducible refine CU (hr (by with_unfolding_all rfl) (by with_unfolding_all rfl)) ?_)
 | (with_reducible refine aJ hQ ?_;simp only [az,aB,Option.some.injEq,exists_eq_left',go_sem,hD,hJ,hP,hZ];repeat' (first | exact Ok.out | with_reducible refine aR ?_ ?_ | (simp;done))))
  refine dt 2 3 ?_ ?_ (IH (rest,k+1,⟨Im.rows (k:Int) 0 (-1) 0 h.L f.body,h.lo++ [(h.L.length:Int)+1],h.hi++ [((Im.rows (k:Int) 0 (-1) 0 h.L f.body).length:Int)+1]⟩,_,_) ⟨g2,h2,by dsimp only;rw [hl];omega,by simp [h4],by simp [h5],by simp,by simp⟩ (Nat.lt_succ_self _))
  ·(simp only [go_sem,hD,hJ,hP,hZ,fL,aF bE,List.map_append,List.map_cons,List.map_nil,fB];try exact br)
  ·(simp only [go_sem,hD,hJ,hP,hZ,fL,aF bE,List.map_append,List.map_cons,List.map_nil,fB];try exact br)
theorem A3 {p:Pg} (hs:Pc.aO p.procs<1000000000) (s:St):aI Try.prog kr [.agg (bP p)] s (.dc (ja p) 0) s:=by
 refine aI.pure ?_ (by simp only [D.bI,D.ok,iU];rfl) (by simp only [D.ok,yQ]) s
 have h:=(SN hs).tT (n:=0) (m:=0) rfl (Nat.le_refl _) (Nat.zero_le _) (Nat.le_refl _)
 simpa [D.fA,D.fg,Tag.fg,B1,MC,MK,Ih,St.cut,ja,S0]using h
end Go.Abs

/-! Sl1 -/

namespace Go.Abs
set_option maxRecDepth 8000
open Go.Proofs
def kY (x:aD) (k:Int):List aD→Int
 | []=> -1
 | s::l=>if x==s then k else kY x (k+1) l
def dY (l:List aD) (x:aD):Bool:=decide (kY x 0 l≥0)
def jK {α:Type} (b:α→Bool) (k:Int):List α→Int
 | []=> -1
 | s::l=>if b s then k else jK b (k+1) l
theorem DV (x:aD) : ∀ (l:List aD) (k:Int),0≤k→(kY x k l≥0↔x∈l)
 | [],k,h=>by simp [kY]
 | s::l,k,h=>by
  by_cases e:x=s
  ·simp [kY,e];omega
  ·have e':(x==s)=false:=by simp [e]
   simp only [kY,e',Bool.false_eq_true,if_false,List.mem_cons,e,false_or]
   exact DV x l (k+1) (by omega)
theorem hO (l:List aD) (x:aD):dY l x=true↔x∈l:=by
 simp only [dY,decide_eq_true_eq];exact DV x l 0 (Int.le_refl 0)
theorem yR {α:Type} (b:α→Bool) : ∀ (l:List α) (k:Int),0≤k→(jK b k l≥0↔l.any b=true)
 | [],k,h=>by simp [jK]
 | s::l,k,h=>by
  by_cases e:b s=true
  ·simp [jK,e];omega
  ·have e':b s=false:=by simpa using e
   simp only [jK,e',Bool.false_eq_true,if_false,List.any_cons,Bool.or_eq_true,false_or]
   exact yR b l (k+1) (by omega)
theorem DW {l:List aD} (hl:l.length<4611686018427387904) (x:aD) (s:St):aI Try.prog fT [.slice .shared 1 (l.map encStr), .str x] s (.int .i64 (kY x 0 l)) s:=by
 refine aI.pure ?_ (by simp [D.bI,D.ok,Tag.ok,fc]) rfl s
 generalize h:kY x 0 l=p
 unfold S0
 refine aI.go qw rfl fun B Q hB hQ=> ?_
 have⟨hD,hJ,hP,hZ⟩:=b7
 repeat' (first
 | simp only [go_sem,hD,hJ,hP,hZ]
 | (with_reducible first | refine cm fun hc=> ?_ | refine cq fun hc=> ?_ | refine cr (fun hc=> ?_) fun hc=> ?_) <;> (try simp only [hc,bs, ↓reduceIte]at h) <;> try simp only [hc]
 | (with_reducible refine aJ hQ ?_;(try cases h);simp only [az,aB,cY,cZ,go_sem,hD,hJ,hP,hZ];repeat' (first | exact Ok.out | with_reducible refine aR ?_ ?_ | (simp;done))))
 refine dG 0 0 (bq.ind (ι:=List aD×Nat) (fun i=>l.drop i.2=i.1∧kY x (i.2:Int) i.1=p) (fun i=>i.1.length)
  (fun i=> [(0, .slice .shared 1 (l.map encStr)),(1, .str x),(7, .int .i64 (l.length:Int)),(8, .int .i64 (i.2:Int))]) (fun i=>⟨[],[]⟩) ?_ (l,0) ⟨rfl,h⟩)
 rintro⟨rest,k⟩ ⟨h1,h⟩ IH
 dsimp only at h1 h
 cases rest with
 | nil=>
  have hD:=drop_nil h1
  simp only [kY]at h
  repeat' (first
 | simp only [go_sem,hD,hJ,hP,hZ]
 | (with_reducible first | refine cm fun hc=> ?_ | refine cq fun hc=> ?_ | refine cr (fun hc=> ?_) fun hc=> ?_) <;> (try simp only [hc,bs, ↓reduceIte]at h) <;> try simp only [hc]
 | (with_reducible refine aJ hQ ?_;(try cases h);simp only [az,aB,cY,cZ,go_sem,hD,hJ,hP,hZ];repeat' (first | exact Ok.out | with_reducible refine aR ?_ ?_ | (simp;done))))
 | cons a rest=>
  obtain⟨hJ,g2,hD,g4⟩:=drop_cons h1
  have bE:k<4611686018427387904:=by omega
  simp only [kY]at h
  repeat' (first
 | simp only [go_sem,hD,hJ,hP,hZ]
 | (with_reducible first | refine cm fun hc=> ?_ | refine cq fun hc=> ?_ | refine cr (fun hc=> ?_) fun hc=> ?_) <;> (try simp only [hc,bs, ↓reduceIte]at h) <;> try simp only [hc]
 | (with_reducible refine aJ hQ ?_;(try cases h);simp only [az,aB,cY,cZ,go_sem,hD,hJ,hP,hZ];repeat' (first | exact Ok.out | with_reducible refine aR ?_ ?_ | (simp;done))))
  refine dt 0 0 ?_ ?_ (IH (rest,k+1) ⟨g2,h⟩ (Nat.lt_succ_self _))
  ·(simp only [go_sem,hD,hJ,hP,hZ,aF bE];try exact br)
  ·(simp only [go_sem,hD,hJ,hP,hZ,aF bE];try exact br)
theorem sT {l:List aD} (hl:l.length<4611686018427387904) (x:aD) (s:St):aI Try.prog bL [.slice .shared 1 (l.map encStr), .str x] s (.bool (dY l x)) s:=by
 refine aI.pure ?_ (by simp [D.bI,D.ok,Tag.ok,fc]) rfl s
 have hi:=fun s=>DW hl x s
 unfold S0
 refine aI.go px rfl fun B Q hB hQ=> ?_
 have⟨hD,hJ,hP,hZ⟩:=b7
 repeat' (first
 | simp only [go_sem,hD,hJ,hP,hZ,dY]
 | (with_reducible refine CU (hi _) ?_)
 | (with_reducible first | refine cm fun hc=> ?_ | refine cq fun hc=> ?_ | refine cr (fun hc=> ?_) fun hc=> ?_) <;> (try simp only [hc,bs, ↓reduceIte]at h) <;> try simp only [hc]
 | (with_reducible refine aJ hQ ?_;simp only [az,aB,cY,cZ,go_sem,hD,hJ,hP,hZ,dY];repeat' (first | exact Ok.out | with_reducible refine aR ?_ ?_ | (simp;done))))
theorem aI.Ik {P:Program} {f:Nat} {d d':D} {r:List D} {s s':St} {x:D} (h:aI P f (d'::r) s x s') (hw:Wk d d'):aI P f (d::r) s x s':=dJ.BB (.cons hw (jW.refl r)) h
theorem gL {l:List aD} (hl:l.length<4611686018427387904) (x:aD) (g:Tag) (s:St):aI Try.prog bL [.slice g 1 (l.map encStr), .str x] s (.bool (dY l x)) s:=
 (sT hl x s).Ik (Wk.shared _ _ _)
theorem Cf (x:aD) (z:Nat) (g:Tag) (s:St):aI Try.prog bL [.slice g z [], .str x] s (.bool false) s:=
 (sT (l:= []) (by simp) x s).Ik (Wk.nil _ _ _)
theorem uN {l:List aD} (hl:l.length<4611686018427387904) {f:Nat} {row:List D} {b:aD→Bool} (pG:D.bI 0 0 row=true) (he:enters Try.prog f=true)
 (hb : ∀ x∈l,aI Try.prog f ([.str x]++ [.ptr 0 0]) ⟨[row],[]⟩ (.bool (b x)) ⟨[row],[]⟩) :
 aI Try.prog ix [.slice .shared 1 (l.map encStr), .fi f [.ptr 0 0]] ⟨[row],[]⟩ (.int .i64 (jK b 0 l)) ⟨[row],[]⟩:=by
 generalize h:jK b 0 l=p
 have k1 : ∀ n m,D.fA n m row=row:=fun n m=>fH n m _ pG
 refine aI.go oS rfl fun B Q hB hQ=> ?_
 have⟨hD,hJ,hP,hZ⟩:=b7
 repeat' (first
 | simp only [go_sem,hD,hJ,hP,hZ,k1]
 | (with_reducible first | refine cm fun hc=> ?_ | refine cq fun hc=> ?_ | refine cr (fun hc=> ?_) fun hc=> ?_) <;> (try simp only [hc,bs, ↓reduceIte]at h) <;> try simp only [hc]
 | (with_reducible refine aJ hQ ?_;(try cases h);simp only [az,aB,cY,cZ,go_sem,hD,hJ,hP,hZ,k1];repeat' (first | exact Ok.out | with_reducible refine aR ?_ ?_ | (simp;done))))
 refine dt 1 0 ?_ ?_ (bq.ind (ι:=List aD×Nat) (fun i=>l.drop i.2=i.1∧jK b (i.2:Int) i.1=p) (fun i=>i.1.length)
  (fun i=> [(0, .slice .shared 1 (l.map encStr)),(1, .fi f [.ptr 0 0]),(7, .int .i64 (l.length:Int)),(8, .int .i64 (i.2:Int))]) (fun i=>⟨[row],[]⟩) ?_ (l,0) ⟨rfl,h⟩)
 ·(simp only [go_sem,hD,hJ,hP,hZ,k1];try exact br)
 ·(simp only [go_sem,hD,hJ,hP,hZ,k1];try exact br)
 rintro⟨rest,k⟩ ⟨h1,h⟩ IH
 dsimp only at h1 h
 cases rest with
 | nil=>
  have hD:=drop_nil h1
  simp only [jK]at h
  repeat' (first
 | simp only [go_sem,hD,hJ,hP,hZ,k1]
 | (with_reducible first | refine cm fun hc=> ?_ | refine cq fun hc=> ?_ | refine cr (fun hc=> ?_) fun hc=> ?_) <;> (try simp only [hc,bs, ↓reduceIte]at h) <;> try simp only [hc]
 | (with_reducible refine aJ hQ ?_;(try cases h);simp only [az,aB,cY,cZ,go_sem,hD,hJ,hP,hZ,k1];repeat' (first | exact Ok.out | with_reducible refine aR ?_ ?_ | (simp;done))))
 | cons a rest=>
  obtain⟨hJ,g2,hD,g4⟩:=drop_cons h1
  have bE:k<4611686018427387904:=by omega
  have QB:=hb a (List.mem_of_getElem? hJ)
  simp only [jK]at h
  repeat' (first
 | simp only [go_sem,hD,hJ,hP,hZ,k1]
 | (with_reducible refine CV.use (he) (QB) ?_)
 | (with_reducible first | refine cm fun hc=> ?_ | refine cq fun hc=> ?_ | refine cr (fun hc=> ?_) fun hc=> ?_) <;> (try simp only [hc,bs, ↓reduceIte]at h) <;> try simp only [hc]
 | (with_reducible refine aJ hQ ?_;(try cases h);simp only [az,aB,cY,cZ,go_sem,hD,hJ,hP,hZ,k1];repeat' (first | exact Ok.out | with_reducible refine aR ?_ ?_ | (simp;done))))
  refine dt 1 0 ?_ ?_ (IH (rest,k+1) ⟨g2,h⟩ (Nat.lt_succ_self _))
  ·(simp only [go_sem,hD,hJ,hP,hZ,k1,aF bE];try exact br)
  ·(simp only [go_sem,hD,hJ,hP,hZ,k1,aF bE];try exact br)
theorem uO {P:Program} {g f:Nat} {row:List D} {rows:List (List D)} {z:Nat} {d:D} (h:aI P g [.slice .shared z rows, .fi f [.ptr 0 0]] ⟨[row],[]⟩ d ⟨[row],[]⟩) (pG:D.bI 0 0 row=true) (hw:D.ig 0 0 rows=true) (hd:D.ok 0 0 d=true) {s:St} {o:Nat} (ho:s.av[o]? = some row) :
 aI P g [.slice .shared z rows, .fi f [.ptr o 0]] s d s:=by
 refine dJ.frame [o] [] h (by simp) List.nodup_nil (by simpa using (List.getElem?_eq_some_iff.1 ho).1) (by simp) rfl (fun i o' ds e1 e2=> ?_) rfl (by simp) (by simp [D.fm,D.db,Tag.db,kj _ _ _ hw])
  (by simp [D.bI,D.ok,Tag.ok,mA (Nat.zero_le 1) (Nat.le_refl 0) _ hw]) ?_
 ·cases i with
  | zero=>simp at e1 e2;subst e1;subst e2;exact⟨by rw [fp _ _ _ pG];exact ho,gZ (Nat.zero_le 1) (Nat.le_refl 0) _ pG⟩
  | succ i=>simp at e1
 ·rintro _ _ ⟨rfl,rfl⟩
  refine⟨n7 _ _ _ hd, ?_⟩
  have:s.av.set o row=s.av:=by
   apply List.ext_getElem?
   intro i
   rw [List.getElem?_set]
   split
   ·rename_i e;subst e;rw [ho];split
    ·rfl
    ·rename_i hh;exact absurd (List.getElem?_eq_some_iff.1 ho).1 hh
   ·rfl
  simp [St.back,iS,fp _ _ _ pG,this]
theorem sn {l:List aD} (hl:l.length<4611686018427387904) {f:Nat} {row:List D} {b:aD→Bool} (pG:D.bI 0 0 row=true) (he:enters Try.prog f=true)
 (hb : ∀ x∈l,aI Try.prog f ([.str x]++ [.ptr 0 0]) ⟨[row],[]⟩ (.bool (b x)) ⟨[row],[]⟩) :
 aI Try.prog eC [.slice .shared 1 (l.map encStr), .fi f [.ptr 0 0]] ⟨[row],[]⟩ (.bool (l.any b)) ⟨[row],[]⟩:=by
 have k1 : ∀ n m,D.fA n m row=row:=fun n m=>fH n m _ pG
 have hi:=uN hl pG he hb
 have e:decide (jK b 0 l≥0)=l.any b:=by
  have:=yR b l 0 (Int.le_refl 0)
  cases hh:l.any b <;> simp_all
 refine aI.go nz rfl fun B Q hB hQ=> ?_
 have⟨hD,hJ,hP,hZ⟩:=b7
 repeat' (first
 | simp only [go_sem,hD,hJ,hP,hZ,k1,e]
 | (with_reducible refine CU (hi) ?_)
 | (with_reducible first | refine cm fun hc=> ?_ | refine cq fun hc=> ?_ | refine cr (fun hc=> ?_) fun hc=> ?_) <;> (try simp only [hc,bs, ↓reduceIte]at h) <;> try simp only [hc]
 | (with_reducible refine aJ hQ ?_;simp only [az,aB,cY,cZ,go_sem,hD,hJ,hP,hZ,k1,e];repeat' (first | exact Ok.out | with_reducible refine aR ?_ ?_ | (simp;done))))
theorem sq {l:List aD} (hl:l.length<4611686018427387904) {f:Nat} {row:List D} {b:aD→Bool} (pG:D.bI 0 0 row=true) (he:enters Try.prog f=true)
 (hb : ∀ x∈l,aI Try.prog f ([.str x]++ [.ptr 0 0]) ⟨[row],[]⟩ (.bool (b x)) ⟨[row],[]⟩) {s:St} {o:Nat} (ho:s.av[o]? = some row) :
 aI Try.prog eC [.slice .shared 1 (l.map encStr), .fi f [.ptr o 0]] s (.bool (l.any b)) s:=
 uO (sn hl pG he hb) pG (fc l) rfl ho
theorem qn {l:List Pc} (hl:l.length<4611686018427387904) {f:Nat} {row:List D} {b:Pc→Bool} (pG:D.bI 0 0 row=true) (he:enters Try.prog f=true)
 (hb : ∀ x∈l,aI Try.prog f ([.agg (bT x)]++ [.ptr 0 0]) ⟨[row],[]⟩ (.bool (b x)) ⟨[row],[]⟩) :
 aI Try.prog eH [.slice .shared 5 (l.map bT), .fi f [.ptr 0 0]] ⟨[row],[]⟩ (.int .i64 (jK b 0 l)) ⟨[row],[]⟩:=by
 generalize h:jK b 0 l=p
 have k1 : ∀ n m,D.fA n m row=row:=fun n m=>fH n m _ pG
 refine aI.go nO rfl fun B Q hB hQ=> ?_
 have⟨hD,hJ,hP,hZ⟩:=b7
 repeat' (first
 | simp only [go_sem,hD,hJ,hP,hZ,k1]
 | (with_reducible first | refine cm fun hc=> ?_ | refine cq fun hc=> ?_ | refine cr (fun hc=> ?_) fun hc=> ?_) <;> (try simp only [hc,bs, ↓reduceIte]at h) <;> try simp only [hc]
 | (with_reducible refine aJ hQ ?_;(try cases h);simp only [az,aB,cY,cZ,go_sem,hD,hJ,hP,hZ,k1];repeat' (first | exact Ok.out | with_reducible refine aR ?_ ?_ | (simp;done))))
 refine dt 1 0 ?_ ?_ (bq.ind (ι:=List Pc×Nat) (fun i=>l.drop i.2=i.1∧jK b (i.2:Int) i.1=p) (fun i=>i.1.length)
  (fun i=> [(0, .slice .shared 5 (l.map bT)),(1, .fi f [.ptr 0 0]),(7, .int .i64 (l.length:Int)),(8, .int .i64 (i.2:Int))]) (fun i=>⟨[row],[]⟩) ?_ (l,0) ⟨rfl,h⟩)
 ·(simp only [go_sem,hD,hJ,hP,hZ,k1];try exact br)
 ·(simp only [go_sem,hD,hJ,hP,hZ,k1];try exact br)
 rintro⟨rest,k⟩ ⟨h1,h⟩ IH
 dsimp only at h1 h
 cases rest with
 | nil=>
  have hD:=drop_nil h1
  simp only [jK]at h
  repeat' (first
 | simp only [go_sem,hD,hJ,hP,hZ,k1]
 | (with_reducible first | refine cm fun hc=> ?_ | refine cq fun hc=> ?_ | refine cr (fun hc=> ?_) fun hc=> ?_) <;> (try simp only [hc,bs, ↓reduceIte]at h) <;> try simp only [hc]
 | (with_reducible refine aJ hQ ?_;(try cases h);simp only [az,aB,cY,cZ,go_sem,hD,hJ,hP,hZ,k1];repeat' (first | exact Ok.out | with_reducible refine aR ?_ ?_ | (simp;done))))
 | cons a rest=>
  obtain⟨hJ,g2,hD,g4⟩:=drop_cons h1
  have bE:k<4611686018427387904:=by omega
  have QB:=hb a (List.mem_of_getElem? hJ)
  simp only [jK]at h
  repeat' (first
 | simp only [go_sem,hD,hJ,hP,hZ,k1]
 | (with_reducible refine CV.use (he) (QB) ?_)
 | (with_reducible first | refine cm fun hc=> ?_ | refine cq fun hc=> ?_ | refine cr (fun hc=> ?_) fun hc=> ?_) <;> (try simp only [hc,bs, ↓reduceIte]at h) <;> try simp only [hc]
 | (with_reducible refine aJ hQ ?_;(try cases h);simp only [az,aB,cY,cZ,go_sem,hD,hJ,hP,hZ,k1];repeat' (first | exact Ok.out | with_reducible refine aR ?_ ?_ | (simp;done))))
  refine dt 1 0 ?_ ?_ (IH (rest,k+1) ⟨g2,h⟩ (Nat.lt_succ_self _))
  ·(simp only [go_sem,hD,hJ,hP,hZ,k1,aF bE];try exact br)
  ·(simp only [go_sem,hD,hJ,hP,hZ,k1,aF bE];try exact br)
theorem tO {l:List Pc} (hl:l.length<4611686018427387904) {f:Nat} {row:List D} {b:Pc→Bool} (pG:D.bI 0 0 row=true) (he:enters Try.prog f=true)
 (hb : ∀ x∈l,aI Try.prog f ([.agg (bT x)]++ [.ptr 0 0]) ⟨[row],[]⟩ (.bool (b x)) ⟨[row],[]⟩) :
 aI Try.prog fe [.slice .shared 5 (l.map bT), .fi f [.ptr 0 0]] ⟨[row],[]⟩ (.bool (l.any b)) ⟨[row],[]⟩:=by
 have k1 : ∀ n m,D.fA n m row=row:=fun n m=>fH n m _ pG
 have hi:=qn hl pG he hb
 have e:decide (jK b 0 l≥0)=l.any b:=by
  have:=yR b l 0 (Int.le_refl 0)
  cases hh:l.any b <;> simp_all
 refine aI.go mE rfl fun B Q hB hQ=> ?_
 have⟨hD,hJ,hP,hZ⟩:=b7
 repeat' (first
 | simp only [go_sem,hD,hJ,hP,hZ,k1,e]
 | (with_reducible refine CU (hi) ?_)
 | (with_reducible first | refine cm fun hc=> ?_ | refine cq fun hc=> ?_ | refine cr (fun hc=> ?_) fun hc=> ?_) <;> (try simp only [hc,bs, ↓reduceIte]at h) <;> try simp only [hc]
 | (with_reducible refine aJ hQ ?_;simp only [az,aB,cY,cZ,go_sem,hD,hJ,hP,hZ,k1,e];repeat' (first | exact Ok.out | with_reducible refine aR ?_ ?_ | (simp;done))))
end Go.Abs

/-! MirFlat2 -/

namespace Go.Abs
mutual
def Sm.pre:Sm→List Sm
 | ⟨id,kind,labels,name,pc,x,has,args,aY,aM⟩=>⟨id,kind,labels,name,pc,x,has,args,aY,aM⟩::(Sm.dm aY++Sm.dm aM)
def Sm.dm:List Sm→List Sm
 | []=> []
 | s::l=>s.pre++Sm.dm l
end
def Pg.pre (p:Pg):List Sm:=(p.procs.map fun f=>Sm.dm f.body).flatten
theorem Sm.uP (s:Sm):s.pre=s::(Sm.dm s.aY++Sm.dm s.aM):=by cases s;simp only [Sm.pre]
mutual
theorem N5 (proc up next loop:Int) (out:List Im) : ∀ s:Sm,∃ e:List Im,Im.one proc up next loop out s=out++e∧e.map Im.s=s.pre
 | ⟨id,kind,labels,name,pc,x,has,args,aY,aM⟩=>by
  simp only [Im.one,Sm.pre]
  obtain⟨e1,h1,k1⟩:=sU proc ((out.length:Int)+1) (if kind==6 then(out.length:Int)+1 else next) (if kind==6 then(out.length:Int)+1 else loop) (out++ [⟨⟨id,kind,labels,name,pc,x,has,args,aY,aM⟩,proc,up,next,loop⟩]) aY
  obtain⟨e2,h2,k2⟩:=sU proc ((out.length:Int)+1) (if kind==6 then(out.length:Int)+1 else next) (if kind==6 then(out.length:Int)+1 else loop) (Im.rows proc ((out.length:Int)+1) (if kind==6 then(out.length:Int)+1 else next) (if kind==6 then(out.length:Int)+1 else loop) (out++ [⟨⟨id,kind,labels,name,pc,x,has,args,aY,aM⟩,proc,up,next,loop⟩]) aY) aM
  refine⟨⟨⟨id,kind,labels,name,pc,x,has,args,aY,aM⟩,proc,up,next,loop⟩::(e1++e2), ?_, ?_⟩
  ·rw [h2,h1];simp
  ·simp [k1,k2]
theorem sU (proc up next loop:Int) (out:List Im) : ∀ l:List Sm,∃ e:List Im,Im.rows proc up next loop out l=out++e∧e.map Im.s=Sm.dm l
 | []=>⟨[],by simp [Im.rows],rfl⟩
 | s::l=>by
  simp only [Im.rows,Sm.dm]
  obtain⟨e1,h1,k1⟩:=N5 proc up (if l.length=0 then next else(out.length:Int)+1+(s.gI:Int)) loop out s
  obtain⟨e2,h2,k2⟩:=sU proc up next loop (Im.one proc up (if l.length=0 then next else(out.length:Int)+1+(s.gI:Int)) loop out s) l
  refine⟨e1++e2, ?_,by simp [k1,k2]⟩
  rw [h2,h1];simp
end
theorem Il : ∀ (l:List Pc) (n:Nat) (h:Sh),h.lo.length=n→h.hi.length=n→
 ∃ e lo hi,Sh.go n h l = ⟨h.L++e,h.lo++lo,h.hi++hi⟩∧e.map Im.s=(l.map fun f=>Sm.dm f.body).flatten∧lo.length=l.length∧hi.length=l.length∧
  ∀ (i:Nat) (f:Pc),l[i]? = some f→∃ a b e' GD:List Im,lo[i]? = some (((h.L++a).length:Int)+1)∧hi[i]? = some (((h.L++a++b).length:Int)+1)∧b.map Im.s=Sm.dm f.body∧e=a++b++e'
 | [],n,h,hl,hh=>⟨[],[],[],by simp [Sh.go],rfl,rfl,rfl,fun i f h=>by simp at h⟩
 | f::l,n,h,hl,hh=>by
  simp only [Sh.go]
  obtain⟨e1,h1,k1⟩:=sU (n:Int) 0 (-1) 0 h.L f.body
  obtain⟨e2,lo,hi,h2,k2,h3,h4,h5⟩:=Il l (n+1) ⟨Im.rows (n:Int) 0 (-1) 0 h.L f.body,h.lo++ [(h.L.length:Int)+1],h.hi++ [((Im.rows (n:Int) 0 (-1) 0 h.L f.body).length:Int)+1]⟩ (by simp [hl]) (by simp [hh])
  refine⟨e1++e2,((h.L.length:Int)+1)::lo,(((Im.rows (n:Int) 0 (-1) 0 h.L f.body).length:Int)+1)::hi, ?_,by simp [k1,k2],by simp [h3],by simp [h4],fun i g gj=> ?_⟩
  ·rw [h2,h1];simp
  ·cases i with
   | zero=>
    simp only [List.getElem?_cons_zero,Option.some.injEq]at gj
    subst gj
    exact⟨[],e1,e2,[],by simp,by rw [h1];simp,k1,by simp⟩
   | succ i=>
    simp only [List.getElem?_cons_succ]at gj
    obtain⟨a,b,e',GD,g1,g2,g3,g4⟩:=h5 i g gj
    refine⟨e1++a,b,e',GD, ?_, ?_,g3,by rw [g4];simp⟩
    ·rw [List.getElem?_cons_succ,g1,h1];simp
    ·rw [List.getElem?_cons_succ,g2,h1];simp
theorem mN (p:Pg):p.ef.L.map Im.s=p.pre∧∀ (i:Nat) (f:Pc),p.procs[i]? = some f→∃ a b e:List Im,p.ef.lo[i]? = some ((a.length:Int)+1)∧p.ef.hi[i]? = some (((a++b).length:Int)+1)∧b.map Im.s=Sm.dm f.body∧p.ef.L=a++b++e:=by
 obtain⟨e,lo,hi,h1,h2,h3,h4,h5⟩:=Il p.procs 0 ⟨[],[],[]⟩ rfl rfl
 unfold Pg.ef
 rw [h1]
 refine⟨by simpa [Pg.pre]using h2,fun i f hf=> ?_⟩
 obtain⟨a,b,e',_,g1,g2,g3,g4⟩:=h5 i f hf
 exact⟨a,b,e',by simpa using g1,by simpa using g2,g3,by simpa using g4⟩
end Go.Abs

/-! Sl2 -/

namespace Go.Abs
set_option maxRecDepth 8000
open Go.Proofs
def Pg.at (p:Pg) (name:aD):Int:=jK (fun f:Pc=>f.name==name) 0 p.procs
theorem N6 (name:aD) (f:Pc):aI Try.prog iZ ([.agg (bT f)]++ [.ptr 0 0]) ⟨[[.str name]],[]⟩ (.bool (f.name==name)) ⟨[[.str name]],[]⟩:=by
 show aI Try.prog iZ [.agg (bT f), .ptr 0 0] _ _ _
 refine aI.go si rfl fun B Q hB hQ=> ?_
 have⟨hD,hJ,hP,hZ⟩:=b7
 repeat' (first
 | simp only [go_sem,hD,hJ,hP,hZ]
 | (with_reducible refine aJ hQ ?_;simp only [az,aB,Option.some.injEq,exists_eq_left',go_sem,hD,hJ,hP,hZ];repeat' (first | exact Ok.out | with_reducible refine aR ?_ ?_ | (simp;done))))
theorem Io {p:Pg} (hs:p.procs.length<4611686018427387904) (name:aD) (s:St):aI Try.prog jR [.dc (ja p) 0, .str name] s (.int .i64 (p.at name)) s:=by
 refine aI.pure ?_ (by simp [D.bI,D.ok,yQ]) rfl s
 have hi:=fun {s:St} {o:Nat} (ho:s.av[o]? = some [.str name])=>uO (qn (l:=p.procs) (f:=iZ) (row:= [.str name]) (b:=fun f:Pc=>f.name==name) hs rfl (by with_unfolding_all rfl) (fun x _=>N6 name x)) rfl (A1 _) rfl ho
 have gj:=fun {s:St} {o:Nat} (ho:s.av[o]? = some [.str name])=>(show aI Try.prog eH [.slice .shared 5 (p.procs.map bT), .fi 66 [.ptr o 0]] s (.int .i64 (p.at name)) s from hi ho)
 unfold S0
 rw [sS]
 refine aI.go tM rfl fun B Q hB hQ=> ?_
 have⟨hD,hJ,hP,hZ⟩:=b7
 repeat' (first
 | simp only [go_sem,hD,hJ,hP,hZ]
 | (with_reducible refine CU (gj (by with_unfolding_all rfl)) ?_)
 | (with_reducible refine aJ hQ ?_;simp only [az,aB,Option.some.injEq,exists_eq_left',go_sem,hD,hJ,hP,hZ];repeat' (first | exact Ok.out | with_reducible refine aR ?_ ?_ | (simp;done))))
theorem Ip : ∀ (l:List Pc) (n:Nat) (h:Sh),(Sh.go n h l).L.length≤h.L.length+Pc.aO l
 | [],n,h=>by simp [Sh.go]
 | f::l,n,h=>by
  simp only [Sh.go]
  refine Nat.le_trans (Ip l _ _) ?_
  have:=e8 (n:Int) 0 (-1) 0 h.L f.body
  have:=lA f.body
  simp only [Pc.aO,Pc.size];omega
theorem mO (p:Pg):p.ef.L.length≤Pc.aO p.procs:=by have:=Ip p.procs 0 ⟨[],[],[]⟩;simpa [Pg.ef]using this
theorem K6 {p:Pg} {i:Nat} {f:Pc} (hf:p.procs[i]? = some f) (hs:Pc.aO p.procs<1000000000) : ∃ it:List Im,it.map Im.s=Sm.dm f.body∧∀ s,aI Try.prog jw [.dc (ja p) 0, .int .i64 (i:Int)] s (.slice .shared 17 (it.map ey)) s:=by
 obtain⟨a,b,e,h1,h2,h3,h4⟩:=(mN p).2 i f hf
 refine⟨b,h3,fun s=> ?_⟩
 refine aI.pure ?_ (by simp [D.bI,D.ok,yQ]) (by simp [D.ok,Tag.ok,A2]) s
 have hL:p.ef.L.length<1000000000:=Nat.lt_of_le_of_lt (mO p) hs
 have l1:(i:Int)<(p.ef.lo.length:Int):=by have:=(List.getElem?_eq_some_iff.1 h1).1;omega
 have l2:(i:Int)<(p.ef.hi.length:Int):=by have:=(List.getElem?_eq_some_iff.1 h2).1;omega
 have MP:a.length+b.length≤p.ef.L.length:=by rw [h4];simp
 have w1:IntKind.wrap .i64 ((a.length:Int)+1 - 1)=(a.length:Int):=by rw [show(a.length:Int)+1 - 1=(a.length:Int) by omega];exact dk (by omega) (by omega)
 have w2:IntKind.wrap .i64 (((a.length+b.length:Nat):Int)+1 - 1)=((a.length+b.length:Nat):Int):=by rw [show((a.length+b.length:Nat):Int)+1 - 1=((a.length+b.length:Nat):Int) by omega];exact dk (by omega) (by omega)
 have c1:((a.length:Int)≤((a.length+b.length:Nat):Int))=True:=by simp only [eq_iff_iff,iff_true];omega
 have c2:(((a.length+b.length:Nat):Int)≤(p.ef.L.length:Int))=True:=by simp only [eq_iff_iff,iff_true];omega
 have hb:List.drop a.length (List.take (a.length+b.length) (List.map ey p.ef.L))=List.map ey b:=by rw [h4];simp [List.map_append,List.take_append,List.drop_append]
 unfold S0
 rw [sS]
 refine aI.go vH rfl fun B Q hB hQ=> ?_
 have⟨hD,hJ,hP,hZ⟩:=b7
 repeat' (first
 | simp only [go_sem,hD,hJ,hP,hZ,h1,h2,w1,w2,c1,c2,or_true,true_and,and_self,ite_self,Int.toNat_natCast,hb]
 | (with_reducible refine aJ hQ ?_;simp only [az,aB,Option.some.injEq,exists_eq_left',go_sem,hD,hJ,hP,hZ];repeat' (first | exact Ok.out | with_reducible refine aR ?_ ?_ | (simp;done))))
end Go.Abs

/-! TMay1 -/

namespace Go.Abs
set_option maxRecDepth 8000
open Go.Proofs
theorem zG {r:aD} : vu r=true↔lE r=r.length:=by
 induction r with
 | nil=>simp [vu,lE]
 | cons c r ih=>
  simp only [vu,lE]
  cases h1:uM c <;> cases h2:xF c <;> simp [ih]
theorem uQ (t:aD) (hl:t.length<4611686018427387904) (s:St):aI Try.prog kv [.str t] s (.bool (isName t)) s:=by
 refine aI.pure ?_ rfl rfl s
 have hr:=fun s=>SG (pos:=0) hl s
 simp only [List.drop_zero,Nat.zero_add]at hr
 unfold S0
 cases t with
 | nil=>
  have z:decide (((0:Nat):Int)<1)=true:=rfl
  have z':decide ((0:Int)<1)=true:=rfl
  have e:isName [] = false:=rfl
  rw [e]
  refine aI.go j7 rfl fun B Q hB hQ=> ?_
  have⟨hD,hJ,hP,hZ⟩:=b7
  repeat' (first
 | simp only [go_sem,hD,hJ,hP,hZ,z,z']
 | (with_reducible refine aJ hQ ?_;simp only [az,aB,Option.some.injEq,exists_eq_left',go_sem,hD,hJ,hP,hZ];repeat' (first | exact Ok.out | with_reducible refine aR ?_ ?_ | (simp;done))))
 | cons c r=>
  have l1:decide (((r.length+1:Nat):Int)<1)=false:=by simp;omega
  generalize h:isName (c::r)=p
  simp only [isName]at h
  cases hL:uM c
  ·simp only [hL,Bool.not_false,Bool.or_true, ↓reduceIte]at h
   subst h
   by_cases c8:decide (((r.length+1:Nat):Int) > 8)=true
   ·refine aI.go j7 rfl fun B Q hB hQ=> ?_
    have⟨hD,hJ,hP,hZ⟩:=b7
    repeat' (first
 | simp only [go_sem,hD,hJ,hP,hZ,l1,c8]
 | (with_reducible refine aJ hQ ?_;simp only [az,aB,Option.some.injEq,exists_eq_left',go_sem,hD,hJ,hP,hZ];repeat' (first | exact Ok.out | with_reducible refine aR ?_ ?_ | (simp;done))))
   ·have c8:decide (((r.length+1:Nat):Int) > 8)=false:=by simpa using c8
    refine aI.go j7 rfl fun B Q hB hQ=> ?_
    have⟨hD,hJ,hP,hZ⟩:=b7
    repeat' (first
 | simp only [go_sem,hD,hJ,hP,hZ,l1,c8,hL]
 | (with_reducible refine CU (og _ _) ?_)
 | (with_reducible refine aJ hQ ?_;simp only [az,aB,Option.some.injEq,exists_eq_left',go_sem,hD,hJ,hP,hZ];repeat' (first | exact Ok.out | with_reducible refine aR ?_ ?_ | (simp;done))))
  ·simp only [hL,Bool.not_true,Bool.or_false]at h
   by_cases c8:decide (((r.length+1:Nat):Int) > 8)=true
   ·simp only [c8, ↓reduceIte]at h
    subst h
    refine aI.go j7 rfl fun B Q hB hQ=> ?_
    have⟨hD,hJ,hP,hZ⟩:=b7
    repeat' (first
 | simp only [go_sem,hD,hJ,hP,hZ,l1,c8]
 | (with_reducible refine aJ hQ ?_;simp only [az,aB,Option.some.injEq,exists_eq_left',go_sem,hD,hJ,hP,hZ];repeat' (first | exact Ok.out | with_reducible refine aR ?_ ?_ | (simp;done))))
   ·have c8:decide (((r.length+1:Nat):Int) > 8)=false:=by simpa using c8
    simp only [c8,Bool.false_eq_true, ↓reduceIte]at h
    have dd:lE (c::r)=lE r+1:=by simp [lE,hL]
    cases hn:vu r
    ·simp only [hn,Bool.false_eq_true, ↓reduceIte]at h
     have:lE r≠r.length:=fun e=>by rw [zG.2 e]at hn;cases hn
     have e:(((lE (c::r):Nat):Int)==((r.length+1:Nat):Int))=false:=by rw [dd];simp;omega
     subst h
     refine aI.go j7 rfl fun B Q hB hQ=> ?_
     have⟨hD,hJ,hP,hZ⟩:=b7
     repeat' (first
 | simp only [go_sem,hD,hJ,hP,hZ,l1,c8,hL,e]
 | (with_reducible refine CU (og _ _) ?_)
 | (with_reducible refine CU (hr _) ?_)
 | (with_reducible refine aJ hQ ?_;simp only [az,aB,Option.some.injEq,exists_eq_left',go_sem,hD,hJ,hP,hZ];repeat' (first | exact Ok.out | with_reducible refine aR ?_ ?_ | (simp;done))))
    ·simp only [hn, ↓reduceIte]at h
     have:=zG.1 hn
     have e:(((lE (c::r):Nat):Int)==((r.length+1:Nat):Int))=true:=by rw [dd];simp;omega
     subst h
     refine aI.go j7 rfl fun B Q hB hQ=> ?_
     have⟨hD,hJ,hP,hZ⟩:=b7
     repeat' (first
 | simp only [go_sem,hD,hJ,hP,hZ,l1,c8,hL,e]
 | (with_reducible refine CU (og _ _) ?_)
 | (with_reducible refine CU (hr _) ?_)
 | (with_reducible refine CU (Qv _ _) ?_)
 | (with_reducible refine aJ hQ ?_;simp only [az,aB,Option.some.injEq,exists_eq_left',go_sem,hD,hJ,hP,hZ];repeat' (first | exact Ok.out | with_reducible refine aR ?_ ?_ | (simp;done))))
theorem DX (op:Int) (s:St):aI Try.prog rG [.int .i64 op] s (.int .i64 (mh op)) s:=by
 refine aI.pure ?_ rfl rfl s
 unfold S0
 generalize h:mh op=p
 unfold mh at h
 refine aI.go AL rfl fun B Q hB hQ=> ?_
 have⟨hD,hJ,hP,hZ⟩:=b7
 repeat' (first
 | simp only [go_sem,hD,hJ,hP,hZ]
 | (with_reducible first | refine cm fun hc=> ?_ | refine cq fun hc=> ?_ | refine cr (fun hc=> ?_) fun hc=> ?_) <;> (try simp only [hc,bs, ↓reduceIte]at h) <;> try simp only [hc]
 | (with_reducible refine aJ hQ ?_;(try cases h);simp only [az,aB,cY,cZ,go_sem,hD,hJ,hP,hZ];repeat' (first | exact Ok.out | with_reducible refine aR ?_ ?_ | (simp;done))))
theorem sV {l:List aD} (hl:l.length<4611686018427387904) (hs : ∀ t∈l,t.length<4611686018427387904) (s:St):aI Try.prog j6 [.slice .shared 1 (l.map encStr)] s (.bool (dw l)) s:=by
 refine aI.pure ?_ (by simp [D.bI,D.ok,fc,Tag.ok]) rfl s
 unfold S0
 generalize h:dw l=p
 refine aI.go yI rfl fun B Q hB hQ=> ?_
 have⟨hD,hJ,hP,hZ⟩:=b7
 repeat' (first
 | simp only [go_sem,hD,hJ,hP,hZ]
 | (with_reducible first | refine cm fun hc=> ?_ | refine cq fun hc=> ?_ | refine cr (fun hc=> ?_) fun hc=> ?_) <;> (try simp only [hc,bs, ↓reduceIte]at h) <;> try simp only [hc]
 | (with_reducible refine aJ hQ ?_;(try cases h);simp only [az,aB,cY,cZ,go_sem,hD,hJ,hP,hZ];repeat' (first | exact Ok.out | with_reducible refine aR ?_ ?_ | (simp;done))))
 refine dG 0 0 (bq.ind (ι:=List aD×Nat) (fun i=>l.drop i.2=i.1∧dw i.1=p) (fun i=>i.1.length)
  (fun i=> [(5, .slice .shared 1 (l.map encStr)),(6, .int .i64 (l.length:Int)),(7, .int .i64 (i.2:Int))]) (fun i=>⟨[],[]⟩) ?_ (l,0) ⟨rfl,h⟩)
 rintro⟨rest,k⟩ ⟨h1,h⟩ IH
 dsimp only at h1 h
 cases rest with
 | nil=>
  have hD:=drop_nil h1
  simp only [dw]at h
  repeat' (first
 | simp only [go_sem,hD,hJ,hP,hZ]
 | (with_reducible first | refine cm fun hc=> ?_ | refine cq fun hc=> ?_ | refine cr (fun hc=> ?_) fun hc=> ?_) <;> (try simp only [hc,bs, ↓reduceIte]at h) <;> try simp only [hc]
 | (with_reducible refine aJ hQ ?_;(try cases h);simp only [az,aB,cY,cZ,go_sem,hD,hJ,hP,hZ];repeat' (first | exact Ok.out | with_reducible refine aR ?_ ?_ | (simp;done))))
 | cons t rest=>
  obtain⟨hJ,g2,hD,g4⟩:=drop_cons h1
  have hP:k<4611686018427387904:=by omega
  have hn:=uQ t (hs t (List.mem_of_getElem? hJ))
  simp only [dw]at h
  repeat' (first
 | simp only [go_sem,hD,hJ,hP,hZ]
 | (with_reducible refine CU (hn _) ?_)
 | (with_reducible first | refine cm fun hc=> ?_ | refine cq fun hc=> ?_ | refine cr (fun hc=> ?_) fun hc=> ?_) <;> (try simp only [hc,bs, ↓reduceIte]at h) <;> try simp only [hc]
 | (with_reducible refine aJ hQ ?_;(try cases h);simp only [az,aB,cY,cZ,go_sem,hD,hJ,hP,hZ];repeat' (first | exact Ok.out | with_reducible refine aR ?_ ?_ | (simp;done))))
  refine dG 0 0 (IH (rest,k+1) ⟨g2,h⟩ (Nat.lt_succ_self _))
mutual
def Ex.dp (left:Int):Ex→Bool
 | ⟨op,n,name,kids⟩=>
  if decide (left<1) || (kids.length:Int) != mh op then false
  else if op==1 then decide (n≥0) && name == []
  else if op==2 then n==0 && isName name
  else if n != 0 || !(name == [])then false
  else Ex.xI (left - 1) kids
def Ex.xI (left:Int):List Ex→Bool
 | []=>true
 | x::l=>if !(Ex.dp left x)then false else Ex.xI left l
end
theorem N7 : ∀ (m:Nat) (x:Ex),x.size≤m→x.size<4611686018427387904→x.texts→∀ left:Int,0≤left→left≤100→∀ s:St,aI Try.prog mg [.agg (bx x), .int .i64 left] s (.bool (x.dp left)) s:=by
 intro m
 induction m with
 | zero=>rintro⟨op,v,name,kids⟩ h;simp only [Ex.size]at h;omega
 | succ m ih=>
  rintro⟨op,v,name,kids⟩ h hx ht left h0 ad5 s
  refine aI.pure ?_ (by simp [D.bI,D.ok,jg]) rfl s
  have hlen:kids.length<4611686018427387904:=by simp only [Ex.size]at hx;have:=Ex.cH kids;omega
  have hn:=uQ name ht.1
  generalize hp:Ex.dp left ⟨op,v,name,kids⟩=p
  simp only [Ex.dp]at hp
  unfold S0
  by_cases Iq:left<1
  ·have d1:decide (left<1)=true:=by simpa using Iq
   simp only [d1,Bool.true_or, ↓reduceIte]at hp
   subst hp
   refine aI.go tz rfl fun B Q hB hQ=> ?_
   have⟨hD,hJ,hP,hZ⟩:=b7
   repeat' (first
 | simp only [go_sem,hD,hJ,hP,hZ,d1]
 | (with_reducible refine CU (DX _ _) ?_)
 | (with_reducible refine CU (hn _) ?_)
 | (with_reducible refine aJ hQ ?_;simp only [az,aB,cY,cZ,go_sem,hD,hJ,hP,hZ];repeat' (first | exact Ok.out | with_reducible refine aR ?_ ?_ | (simp;done))))
  ·have d1:decide (left<1)=false:=by simpa using Iq
   have w1:IntKind.wrap .i64 (left - 1)=left - 1:=dk (by omega) (by omega)
   have hk : ∀ y∈kids,∀ s,aI Try.prog mg [.agg (bx y), .int .i64 (left - 1)] s (.bool (y.dp (left - 1))) s:=fun y hy s=>
    ih y (by simp only [Ex.size]at h;have:=Ex.bW hy;omega) (by simp only [Ex.size]at hx;have:=Ex.bW hy;omega) (Ex.Ia ht hy) (left - 1) (by omega) (by omega) s
   simp only [d1,Bool.false_or]at hp
   have h:=hp
   clear hp
   refine aI.go tz rfl fun B Q hB hQ=> ?_
   have⟨hD,hJ,hP,hZ⟩:=b7
   repeat' (first
 | simp only [go_sem,hD,hJ,hP,hZ,d1]
 | (with_reducible refine CU (DX _ _) ?_)
 | (with_reducible refine CU (hn _) ?_)
 | (with_reducible first | refine cm fun hc=> ?_ | refine cq fun hc=> ?_ | refine cr (fun hc=> ?_) fun hc=> ?_) <;> (try simp only [hc,bs, ↓reduceIte]at h) <;> try simp only [hc]
 | (with_reducible refine aJ hQ ?_;(try cases h);simp only [az,aB,cY,cZ,go_sem,hD,hJ,hP,hZ,d1];repeat' (first | exact Ok.out | with_reducible refine aR ?_ ?_ | (simp;done))))
   all_goals
    refine dG 1 0 (bq.ind (ι:=List Ex×Nat) (fun i=>kids.drop i.2=i.1∧Ex.xI (left - 1) i.1=p) (fun i=>i.1.length)
     (fun i=> [(1, .int .i64 left),(49, .slice .shared 4 (kids.map bx)),(50, .int .i64 (kids.length:Int)),(51, .int .i64 (i.2:Int))]) (fun i=>⟨[bx ⟨op,v,name,kids⟩],[]⟩) ?_ (kids,0) ⟨rfl,h⟩)
    rintro⟨rest,k⟩ ⟨h1,h⟩ IH
    dsimp only at h1 h
    cases rest with
    | nil=>
     have hD:=drop_nil h1
     simp only [Ex.xI]at h
     repeat' (first
 | simp only [go_sem,hD,hJ,hP,hZ]
 | (with_reducible first | refine cm fun hc=> ?_ | refine cq fun hc=> ?_ | refine cr (fun hc=> ?_) fun hc=> ?_) <;> (try simp only [hc,bs, ↓reduceIte]at h) <;> try simp only [hc]
 | (with_reducible refine aJ hQ ?_;exact ik)
 | (cases h;done))
    | cons y rest=>
     obtain⟨hJ,g2,hD,g4⟩:=drop_cons h1
     have hy:=hk y (List.mem_of_getElem? hJ)
     have hP:k<4611686018427387904:=by omega
     simp only [Ex.xI]at h
     repeat' (first
 | simp only [go_sem,hD,hJ,hP,hZ,w1]
 | (with_reducible refine CU (hy _) ?_)
 | (with_reducible first | refine cm fun hc=> ?_ | refine cq fun hc=> ?_ | refine cr (fun hc=> ?_) fun hc=> ?_) <;> (try simp only [hc,bs, ↓reduceIte]at h) <;> try simp only [hc]
 | (with_reducible refine aJ hQ ?_;(try cases h);simp only [az,aB,cY,cZ,go_sem,hD,hJ,hP,hZ,w1];repeat' (first | exact Ok.out | with_reducible refine aR ?_ ?_ | (simp;done))))
     refine dG 1 0 (IH (rest,k+1) ⟨g2,h⟩ (Nat.lt_succ_self _))
end Go.Abs

/-! TMay2 -/

namespace Go.Abs
set_option maxRecDepth 8000
open Go.Proofs
theorem xJ {x:Ex} (hx:x.size<4611686018427387904) (ht:x.texts) (s:St):aI Try.prog lP [.agg (bx x)] s (.bool (x.dp 20)) s:=by
 refine aI.pure ?_ (by simp [D.bI,D.ok,jg]) rfl s
 have hd:=fun s=>N7 _ x (Nat.le_refl _) hx ht 20 (by omega) (by omega) s
 unfold S0
 refine aI.go wI rfl fun B Q hB hQ=> ?_
 have⟨hD,hJ,hP,hZ⟩:=b7
 repeat' (first
 | simp only [go_sem,hD,hJ,hP,hZ]
 | (with_reducible refine CU (hd _) ?_)
 | (with_reducible first | refine cm fun hc=> ?_ | refine cq fun hc=> ?_ | refine cr (fun hc=> ?_) fun hc=> ?_) <;> (try simp only [hc,bs, ↓reduceIte]at h) <;> try simp only [hc]
 | (with_reducible refine aJ hQ ?_;exact ik)
 | (cases h;done))
theorem N8 (x:Ex) (s:St):aI Try.prog rF [.agg (bx x)] s (.bool x.none) s:=by
 refine aI.pure ?_ (by simp [D.bI,D.ok,jg]) rfl s
 unfold S0
 generalize h:Ex.none x=p
 unfold Ex.none at h
 refine aI.go AJ rfl fun B Q hB hQ=> ?_
 have⟨hD,hJ,hP,hZ⟩:=b7
 repeat' (first
 | simp only [go_sem,hD,hJ,hP,hZ]
 | (with_reducible first | refine cm fun hc=> ?_ | refine cq fun hc=> ?_ | refine cr (fun hc=> ?_) fun hc=> ?_) <;> (try simp only [hc,bs, ↓reduceIte]at h) <;> try simp only [hc]
 | (with_reducible refine aJ hQ ?_;exact ik)
 | (cases h;done))
def oU (t:aD) (is:Bool):Bool:=(is && isName t) || (!is && t == [])
theorem wK (t:aD) (is:Bool) (hl:t.length<4611686018427387904) (s:St):aI Try.prog lB [.str t, .bool is] s (.bool (oU t is)) s:=by
 refine aI.pure ?_ rfl rfl s
 have hn:=uQ t hl
 unfold S0
 generalize h:oU t is=p
 unfold oU at h
 refine aI.go yM rfl fun B Q hB hQ=> ?_
 have⟨hD,hJ,hP,hZ⟩:=b7
 repeat' (first
 | simp only [go_sem,hD,hJ,hP,hZ]
 | (with_reducible refine CU (hn _) ?_)
 | (with_reducible first | refine cm fun hc=> ?_ | refine cq fun hc=> ?_ | refine cr (fun hc=> ?_) fun hc=> ?_) <;> (try simp only [hc,bs, ↓reduceIte]at h) <;> try simp only [hc]
 | (with_reducible refine aJ hQ ?_;exact ik)
 | (cases h;done))
def qo (x:Ex) (is:Bool):Bool:=(is && x.dp 20) || (!is && x.none)
theorem DY {x:Ex} (is:Bool) (hx:x.size<4611686018427387904) (ht:x.texts) (s:St):aI Try.prog nr [.agg (bx x), .bool is] s (.bool (qo x is)) s:=by
 refine aI.pure ?_ (by simp [D.bI,D.ok,jg]) rfl s
 have hm:=xJ hx ht
 unfold S0
 generalize h:qo x is=p
 unfold qo at h
 refine aI.go yN rfl fun B Q hB hQ=> ?_
 have⟨hD,hJ,hP,hZ⟩:=b7
 repeat' (first
 | simp only [go_sem,hD,hJ,hP,hZ]
 | (with_reducible refine CU (hm _) ?_)
 | (with_reducible refine CU (N8 _ _) ?_)
 | (with_reducible first | refine cm fun hc=> ?_ | refine cq fun hc=> ?_ | refine cr (fun hc=> ?_) fun hc=> ?_) <;> (try simp only [hc,bs, ↓reduceIte]at h) <;> try simp only [hc]
 | (with_reducible refine aJ hQ ?_;exact ik)
 | (cases h;done))
def lQ:List Ar→Bool
 | []=>true
 | a::l=>if !(oU a.name a.ref) || !(qo a.x !a.ref)then false else lQ l
theorem K7 {l:List Ar} (hl:l.length<4611686018427387904) (hs : ∀ a∈l,a.x.size<4611686018427387904∧a.x.texts∧a.name.length<4611686018427387904) (s:St) :
 aI Try.prog ph [.slice .shared 6 (l.map dh)] s (.bool (lQ l)) s:=by
 refine aI.pure ?_ (by simp [D.bI,D.ok,A0,Tag.ok]) rfl s
 unfold S0
 generalize h:lQ l=p
 refine aI.go xE rfl fun B Q hB hQ=> ?_
 have⟨hD,hJ,hP,hZ⟩:=b7
 repeat' (first
 | simp only [go_sem,hD,hJ,hP,hZ]
 | (with_reducible first | refine cm fun hc=> ?_ | refine cq fun hc=> ?_ | refine cr (fun hc=> ?_) fun hc=> ?_) <;> (try simp only [hc,bs, ↓reduceIte]at h) <;> try simp only [hc]
 | (with_reducible refine aJ hQ ?_;exact ik)
 | (cases h;done))
 refine dG 0 0 (bq.ind (ι:=List Ar×Nat) (fun i=>l.drop i.2=i.1∧lQ i.1=p) (fun i=>i.1.length)
  (fun i=> [(5, .slice .shared 6 (l.map dh)),(6, .int .i64 (l.length:Int)),(7, .int .i64 (i.2:Int))]) (fun i=>⟨[],[]⟩) ?_ (l,0) ⟨rfl,h⟩)
 rintro⟨rest,k⟩ ⟨h1,h⟩ IH
 dsimp only at h1 h
 cases rest with
 | nil=>
  have hD:=drop_nil h1
  simp only [lQ]at h
  repeat' (first
 | simp only [go_sem,hD,hJ,hP,hZ]
 | (with_reducible first | refine cm fun hc=> ?_ | refine cq fun hc=> ?_ | refine cr (fun hc=> ?_) fun hc=> ?_) <;> (try simp only [hc,bs, ↓reduceIte]at h) <;> try simp only [hc]
 | (with_reducible refine aJ hQ ?_;exact ik)
 | (cases h;done))
 | cons a rest=>
  obtain⟨hJ,g2,hD,g4⟩:=drop_cons h1
  have hP:k<4611686018427387904:=by omega
  obtain⟨a1,a2,a3⟩:=hs a (List.mem_of_getElem? hJ)
  have hn:=fun b s=>wK a.name b a3 s
  have hw:=fun b s=>DY b a1 a2 s
  simp only [lQ]at h
  repeat' (first
 | simp only [go_sem,hD,hJ,hP,hZ]
 | (with_reducible refine CU (hn _ _) ?_)
 | (with_reducible refine CU (hw _ _) ?_)
 | (with_reducible first | refine cm fun hc=> ?_ | refine cq fun hc=> ?_ | refine cr (fun hc=> ?_) fun hc=> ?_) <;> (try simp only [hc,bs, ↓reduceIte]at h) <;> try simp only [hc]
 | (with_reducible refine aJ hQ ?_;exact ik)
 | (cases h;done))
  refine dG 0 0 (IH (rest,k+1) ⟨g2,h⟩ (Nat.lt_succ_self _))
def Sm.flags (s:Sm):Option (Bool×Bool×Bool×Bool×Bool×Bool):=
 if s.kind==1 then some (true,false,true,s.has,false,false)
 else if s.kind==2 || s.kind==10 then some (true,false,false,s.has,false,false)
 else if s.kind==3 then some (false,false,true,s.has,false,false)
 else if s.kind==4 then some (!(s.name == []),true,false,s.has,false,false)
 else if s.kind==5 then some (false,false,true,s.has,true,true)
 else if s.kind==6 then some (false,false,true,s.has,true,false)
 else if s.kind==9 then some (false,false,s.has,false,false,false)
 else if s.kind==7 || s.kind==8 then some (false,false,false,s.has,false,false)
 else none
def Sm.A4 (s:Sm) (nm pr x:Bool):Bool:=if !(oU s.name nm) || !(oU s.proc pr) || !(qo s.x x)then false else lQ s.args
def Sm.A5 (s:Sm) (f:Bool×Bool×Bool×Bool×Bool×Bool):Bool:=
 if f.2.2.2.1 || (!f.2.2.2.2.1 && decide ((s.aY.length:Int) > 0)) || (!f.2.2.2.2.2 && decide ((s.aM.length:Int) > 0)) || (!(s.kind==4) && decide ((s.args.length:Int) > 0))then false
 else s.A4 f.1 f.2.1 f.2.2.1
def Sm.fields (s:Sm):Bool:=match s.flags with
 | none=>false
 | some f=>s.A5 f
section
variable {v:Sm} {B:fw} {Q:Exit→Tm→St→Prop} {p:Bool}
theorem K9 {nm pr x:Bool} (hf:v.py) (hB:B.s = ⟨[],[]⟩) (hQ:n6 0 0 [(2,none)] (.bool p) ⟨[],[]⟩=Q) (h:v.A4 nm pr x=p) :
 Sem Try.prog B 93 Qp Q [(1, .ptr 0 0),(3, .bool nm),(4, .bool pr),(5, .bool x)] ⟨[a7 v],[]⟩:=by
 have h1:=fun b s=>wK v.name b hf.name s
 have h2:=fun b s=>wK v.proc b hf.proc s
 have h3:=fun b s=>DY b hf.x hf.xt s
 have h4:=fun s=>K7 hf.V8 hf.arg s
 unfold Sm.A4 at h
 have⟨hD,hJ,hP,hZ⟩:=b7
 refine gO ?_
 repeat' (first
 | simp only [go_sem,hD,hJ,hP,hZ]
 | (with_reducible refine CU (h1 _ _) ?_)
 | (with_reducible refine CU (h2 _ _) ?_)
 | (with_reducible refine CU (h3 _ _) ?_)
 | (with_reducible refine CU (h4 _) ?_)
 | (with_reducible first | refine cm fun hc=> ?_ | refine cq fun hc=> ?_ | refine cr (fun hc=> ?_) fun hc=> ?_) <;> (try simp only [hc,bs, ↓reduceIte]at h) <;> try simp only [hc]
 | (with_reducible refine aJ hQ ?_;exact ik)
 | (cases h;done))
theorem La {nm pr x has th ot ar:Bool} (hf:v.py) (hB:B.s = ⟨[],[]⟩) (hQ:n6 0 0 [(2,none)] (.bool p) ⟨[],[]⟩=Q) (e:(v.kind==4)=ar) (h:v.A5 (nm,pr,x,has,th,ot)=p) :
 Sem Try.prog B 93 Qq Q [(1, .ptr 0 0),(3, .bool nm),(4, .bool pr),(5, .bool x),(6, .bool has),(7, .bool th),(8, .bool ot),(9, .bool ar)] ⟨[a7 v],[]⟩:=by
 simp only [Sm.A5,e]at h
 have⟨hD,hJ,hP,hZ⟩:=b7
 refine Sem.o9 ?_
 repeat' (first
 | simp only [go_sem,hD,hJ,hP,hZ]
 | (with_reducible first | refine cm fun hc=> ?_ | refine cq fun hc=> ?_ | refine cr (fun hc=> ?_) fun hc=> ?_) <;> (try simp only [hc,bs, ↓reduceIte]at h) <;> try simp only [hc]
 | (with_reducible refine aJ hQ ?_;(try cases h);simp only [az,aB,cY,cZ,go_sem,hD,hJ,hP,hZ];repeat' (first | exact Ok.out | with_reducible refine aR ?_ ?_ | (simp;done)))
 | (cases h;done))
 all_goals
  refine Sem.re _ _ 1 0 (by rw [hB];exact vX rfl) (by rw [hB];exact vX rfl) ?_ ?_ (K9 hf hB hQ h)
  ·(simp only [go_sem,hD,hJ,hP,hZ];repeat' (first | exact Ok.out | with_reducible refine aR ?_ ?_))
  ·(simp only [go_sem,hD,hJ,hP,hZ];repeat' (first | exact Ok.out | with_reducible refine aR ?_ ?_))
theorem Lb {ar:Bool} (hf:v.py) (hB:B.s = ⟨[],[]⟩) (hQ:n6 0 0 [(2,none)] (.bool p) ⟨[],[]⟩=Q) (e:(v.kind==4)=ar) (h:v.fields=p) :
 Sem Try.prog B 93 KZ Q [(1, .ptr 0 0),(3, .bool false),(4, .bool false),(5, .bool false),(6, .bool v.has),(7, .bool false),(8, .bool false),(9, .bool ar)] ⟨[a7 v],[]⟩:=by
 simp only [Sm.fields,Sm.flags]at h
 have⟨hD,hJ,hP,hZ⟩:=b7
 refine Sem.o9 ?_
 repeat' (first
 | simp only [go_sem,hD,hJ,hP,hZ]
 | (with_reducible first | refine cm fun hc=> ?_ | refine cq fun hc=> ?_ | refine cr (fun hc=> ?_) fun hc=> ?_) <;> (try simp only [hc,bs, ↓reduceIte]at h) <;> try simp only [hc]
 | (with_reducible refine aJ hQ ?_;(try cases h);simp only [az,aB,cY,cZ,go_sem,hD,hJ,hP,hZ];repeat' (first | exact Ok.out | with_reducible refine aR ?_ ?_ | (simp;done)))
 | (cases h;done))
 all_goals
  refine Sem.re _ _ 1 0 (by rw [hB];exact vX rfl) (by rw [hB];exact vX rfl) ?_ ?_ (La hf hB hQ e h)
  ·(simp only [go_sem,hD,hJ,hP,hZ];repeat' (first | exact Ok.out | with_reducible refine aR ?_ ?_))
  ·(simp only [go_sem,hD,hJ,hP,hZ];repeat' (first | exact Ok.out | with_reducible refine aR ?_ ?_))
end
theorem Lc {v:Sm} (hf:v.py) (s:St):aI Try.prog pg [.agg (a7 v)] s (.bool v.fields) s:=by
 refine aI.pure ?_ (by simp [D.bI,D.ok,kq]) rfl s
 unfold S0
 refine aI.goS xD rfl fun B Q hB hQ=> ?_
 have⟨hD,hJ,hP,hZ⟩:=b7
 refine Sem.seq (b:=Qs) (gO ?_)
 repeat' (first
 | simp only [go_sem,hD,hJ,hP,hZ]
 | (with_reducible first | refine cm fun hc=> ?_ | refine cq fun hc=> ?_ | refine cr (fun hc=> ?_) fun hc=> ?_) <;> (try simp only [hc,bs, ↓reduceIte]at h) <;> try simp only [hc]
 | (with_reducible refine aJ hQ ?_;exact ik)
 | (cases h;done))
 refine Sem.seq (b:=Qr) (gO ?_)
 repeat' (first
 | simp only [go_sem,hD,hJ,hP,hZ]
 | (with_reducible first | refine cm fun hc=> ?_ | refine cq fun hc=> ?_ | refine cr (fun hc=> ?_) fun hc=> ?_) <;> (try simp only [hc,bs, ↓reduceIte]at h) <;> try simp only [hc]
 | (with_reducible refine aJ hQ ?_;exact ik)
 | (cases h;done))
 refine Sem.seq (b:=KZ) (gO ?_)
 repeat' (first
 | simp only [go_sem,hD,hJ,hP,hZ]
 | (with_reducible first | refine cm fun hc=> ?_ | refine cq fun hc=> ?_ | refine cr (fun hc=> ?_) fun hc=> ?_) <;> (try simp only [hc,bs, ↓reduceIte]at h) <;> try simp only [hc]
 | (with_reducible refine aJ hQ ?_;exact ik)
 | (cases h;done))
 refine Sem.re _ _ 1 0 (by rw [hB];exact vX rfl) (by rw [hB];exact vX rfl) ?_ ?_ (Lb hf hB hQ rfl rfl)
 ·(simp only [go_sem,hD,hJ,hP,hZ];repeat' (first | exact Ok.out | with_reducible refine aR ?_ ?_))
 ·(simp only [go_sem,hD,hJ,hP,hZ];repeat' (first | exact Ok.out | with_reducible refine aR ?_ ?_))
end Go.Abs

/-! RefMay3 -/

namespace Go.Abs
set_option maxRecDepth 8000
open Go.Proofs
def eh (i:It):List D:= [.int .i64 i.s.id, .int .i64 i.s.kind, .slice .shared 1 (i.s.labels.map encStr), .str i.s.name, .str i.s.proc,
 .int .i64 i.s.x.op, .int .i64 i.s.x.n, .str i.s.x.name, .slice .shared 4 (i.s.x.kids.map bx), .bool i.s.has, .slice .shared 6 (i.s.args.map dh), .slice .shared 13 (i.s.aY.map a7), .slice .shared 13 (i.s.aM.map a7), .int .i64 i.deep, .int .i64 i.bC, .bool i.aM]
theorem Ge (i:It):D.bI 0 0 (eh i)=true:=by simp [eh,D.bI,D.ok,Tag.ok,fc,MB,A0,nh]
theorem xK (l:List It):D.ig 0 0 (l.map eh)=true:=fy Ge l
theorem SO (n m:Nat) (l:List It):D.ie n m (l.map eh)=l.map eh:=jZ Ge n m l
theorem SP (n m:Nat) (i:It):D.fA n m (eh i)=eh i:=fH n m _ (Ge i)
theorem SQ (x:It):(eh x).length=16:=nd rfl
theorem Cg (x:It):List.take 13 (eh x)=a7 x.s:=by simp only [eh,bJ];rfl
theorem Ld (x:It):(eh x)[0]? = some (.int .i64 x.s.id):=nd rfl
theorem Ir (x:It):(eh x)[13]? = some (.int .i64 x.deep):=nd rfl
theorem yS (s:Sm) (d n:Int) (e:Bool):eh ⟨s,d,n,e⟩ = [.int .i64 s.id, .int .i64 s.kind, .slice .shared 1 (s.labels.map encStr), .str s.name, .str s.proc,
 .int .i64 s.x.op, .int .i64 s.x.n, .str s.x.name, .slice .shared 4 (s.x.kids.map bx), .bool s.has, .slice .shared 6 (s.args.map dh), .slice .shared 13 (s.aY.map a7), .slice .shared 13 (s.aM.map a7), .int .i64 d, .int .i64 n, .bool e]:=nd rfl
attribute [go_sem] SO SP SQ Cg Ld Ir
theorem Ch (deep bC:Int) (aM:Bool) (out:List It) (s:Sm) :
 fk deep bC aM out s=if decide (deep≤12)then cB (deep+1) s.id true (cB (deep+1) s.id false (out++ [⟨s,deep,bC,aM⟩]) s.aY) s.aM else out++ [⟨s,deep,bC,aM⟩]:=by
 cases s;simp only [fk]
mutual
theorem Is (deep bC:Int) (aM:Bool) (out:List It) (h:out.length≤200) : ∀ s:Sm,(fk deep bC aM out s).length≤201
 | ⟨id,kind,labels,name,proc,x,has,args,aY,e⟩=>by
  simp only [fk]
  have h1:(out++ [(⟨⟨id,kind,labels,name,proc,x,has,args,aY,e⟩,deep,bC,aM⟩:It)]).length≤201:=by simp;omega
  split
  ·exact iF _ _ _ _ (iF _ _ _ _ h1 aY) e
  ·exact h1
theorem iF (deep bC:Int) (aM:Bool) (out:List It) (h:out.length≤201) : ∀ l:List Sm,(cB deep bC aM out l).length≤201
 | []=>by simpa only [cB]using h
 | s::l=>by
  simp only [cB]
  split
  ·rename_i hc
   simp only [decide_eq_true_eq]at hc
   exact iF deep bC aM _ (Is _ _ _ _ (by omega) s) l
  ·exact h
end
abbrev Iu (N:Nat):Prop:=∀ (l:List Sm) (deep bC:Int) (aM:Bool) (out:List It),Sm.aO l<N→0≤deep→deep≤13→out.length≤201→∀ {s:St} {t:Nat},s.aw[t]? = some (some out.length)→
 aI Try.prog jG [.slice .shared 13 (l.map a7), .int .i64 deep, .int .i64 bC, .bool aM, .slice (.tok t) 16 (out.map eh)] s (.slice (.tok t) 16 ((cB deep bC aM out l).map eh)) ⟨s.av,s.aw.set t (some (cB deep bC aM out l).length)⟩
theorem QD {N:Nat} (hN:N<4611686018427387904) (ih:Iu N) {l:List Sm} {deep bC:Int} {aM:Bool} {out:List It} (hs:Sm.aO l<N+1) (zH:0≤deep) (hd:deep≤13) (ho:out.length≤201) :
 aI Try.prog jG [.slice .shared 13 (l.map a7), .int .i64 deep, .int .i64 bC, .bool aM, .slice (.tok 0) 16 (out.map eh)] ⟨[],[some out.length]⟩ (.slice (.tok 0) 16 ((cB deep bC aM out l).map eh)) ⟨[],[some (cB deep bC aM out l).length]⟩:=by
 generalize hR:cB deep bC aM out l=R
 refine aI.go tx rfl fun B Q hB hQ=> ?_
 have⟨hD,hJ,hP,hZ⟩:=b7
 repeat' (first
 | simp only [go_sem,hD,hJ,hP,hZ]
 | (with_reducible refine aJ hQ ?_;simp only [az,aB,Option.some.injEq,exists_eq_left',go_sem,hD,hJ,hP,hZ];repeat' (first | exact Ok.out | with_reducible refine aR ?_ ?_ | (simp;done))))
 refine dG 0 1 (bq.ind (ι:=List Sm×Nat×List It×Nat) (fun i=>l.drop i.2.1=i.1∧cB deep bC aM i.2.2.1 i.1=R∧i.2.2.1.length≤201∧i.2.2.2=i.2.2.1.length) (fun i=>i.1.length)
  (fun i=> [(0, .slice .shared 13 (l.map a7)),(1, .int .i64 deep),(2, .int .i64 bC),(3, .bool aM),(4, .slice (.tok 0) 16 (i.2.2.1.map eh)),(11, .int .i64 (i.2.1:Int))]) (fun i=>⟨[],[some i.2.2.2]⟩) ?_ (l,0,out,out.length) ⟨rfl,hR,ho,rfl⟩)
 rintro⟨rest,k,out,n⟩ ⟨h1,h2,h3,h4⟩ IH
 dsimp only at h1 h2 h3 h4
 subst h4
 have hlen:l.length<4611686018427387904:=by have:=Sm.cH l;omega
 cases rest with
 | nil=>
  have hD:=drop_nil h1
  simp only [cB]at h2
  subst h2
  repeat' (first
 | simp only [go_sem,hD,hJ,hP,hZ]
 | (with_reducible refine aJ hQ ?_;simp only [az,aB,Option.some.injEq,exists_eq_left',go_sem,hD,hJ,hP,hZ];repeat' (first | exact Ok.out | with_reducible refine aR ?_ ?_ | (simp;done))))
 | cons v rest=>
  obtain⟨hJ,g2,hD,g4⟩:=drop_cons h1
  have bE:k<4611686018427387904:=by omega
  have hv:=Sm.bW (List.mem_of_getElem? hJ)
  have lr:Sm.aO v.aY<N∧Sm.aO v.aM<N:=by
   obtain⟨_,_,_,_,_,_,_,_,_,_⟩:=v
   simp only [Sm.size]at hv ⊢;omega
  simp only [cB]at h2
  by_cases hc:out.length≤200
  ·have c1:decide ((out.length:Int)≤200)=true:=by simp;omega
   simp only [c1, ↓reduceIte,Ch]at h2
   have hP:(out.length+1)*233≤bt:=by unfold bt;omega
   have k7:(out++ [(⟨v,deep,bC,aM⟩:It)]).length≤201:=by simp;omega
   have hw:IntKind.wrap .i64 (deep+1)=deep+1:=dk (by omega) (by omega)
   by_cases Wb:deep≤12
   ·have c2:decide (deep≤12)=true:=by simp;omega
    simp only [c2, ↓reduceIte]at h2
    have f1:=fun {s:St} {t:Nat} (ht:s.aw[t]? = some (some (out++ [(⟨v,deep,bC,aM⟩:It)]).length))=>ih v.aY (deep+1) v.id false _ lr.1 (by omega) (by omega) k7 ht
    have f2:=fun {s:St} {t:Nat} (ht:s.aw[t]? = some (some (cB (deep+1) v.id false (out++ [(⟨v,deep,bC,aM⟩:It)]) v.aY).length))=>ih v.aM (deep+1) v.id true _ lr.2 (by omega) (by omega) (iF _ _ _ _ k7 _) ht
    simp only [List.map_append,List.map_cons,List.map_nil,yS,List.length_append,List.length_cons,List.length_nil]at f1
    repeat' (first
 | simp only [go_sem,hD,hJ,hP,hZ,c1,c2,hw,bJ]
 | (with_reducible refine CU (f1 (by with_unfolding_all rfl)) ?_)
 | (with_reducible refine CU (f2 (by with_unfolding_all rfl)) ?_)
 | (with_reducible refine aJ hQ ?_;simp only [az,aB,Option.some.injEq,exists_eq_left',go_sem,hD,hJ,hP,hZ];repeat' (first | exact Ok.out | with_reducible refine aR ?_ ?_ | (simp;done))))
    refine dt 0 1 ?_ ?_ (IH (rest,k+1,_,_) ⟨g2,h2,iF _ _ _ _ (iF _ _ _ _ k7 _) _,rfl⟩ (Nat.lt_succ_self _))
    ·(simp only [go_sem,hD,hJ,hP,hZ,aF bE];try exact br)
    ·(simp only [go_sem,hD,hJ,hP,hZ,aF bE];try exact br)
   ·have c2:decide (deep≤12)=false:=by simp;omega
    simp only [c2,Bool.false_eq_true, ↓reduceIte]at h2
    repeat' (first
 | simp only [go_sem,hD,hJ,hP,hZ,c1,c2,bJ]
 | (with_reducible refine aJ hQ ?_;simp only [az,aB,Option.some.injEq,exists_eq_left',go_sem,hD,hJ,hP,hZ];repeat' (first | exact Ok.out | with_reducible refine aR ?_ ?_ | (simp;done))))
    refine dt 0 1 ?_ ?_ (IH (rest,k+1,out++ [⟨v,deep,bC,aM⟩],out.length+1) ⟨g2,h2,k7,by simp⟩ (Nat.lt_succ_self _))
    ·(simp only [go_sem,hD,hJ,hP,hZ,aF bE,yS,List.map_append,List.map_cons,List.map_nil];try exact br)
    ·(simp only [go_sem,hD,hJ,hP,hZ,aF bE,yS,List.map_append,List.map_cons,List.map_nil];try exact br)
  ·have c1:decide ((out.length:Int)≤200)=false:=by simp;omega
   simp only [c1,Bool.false_eq_true, ↓reduceIte]at h2
   subst h2
   repeat' (first
 | simp only [go_sem,hD,hJ,hP,hZ,c1]
 | (with_reducible refine aJ hQ ?_;simp only [az,aB,Option.some.injEq,exists_eq_left',go_sem,hD,hJ,hP,hZ];repeat' (first | exact Ok.out | with_reducible refine aR ?_ ?_ | (simp;done))))
theorem Lf : ∀ N,N<4611686018427387904→Iu N:=by
 intro N
 induction N with
 | zero=>exact fun _ l deep bC aM out h=>absurd h (Nat.not_lt_zero _)
 | succ N ih=>
  intro h l deep bC aM out hs zH hd ho s t ht
  exact(QD (by omega) (ih (by omega)) hs zH hd ho).Pw (pre:= [_,_,_,_]) (post:= []) (by simp [D.bI,D.ok,Tag.ok,nh]) rfl (xK out) (xK _) ht
theorem Lg {l:List Sm} (hs:Sm.aO l<4611686018427387000) (s:St) :
 aI Try.prog jG [.slice .shared 13 (l.map a7), .int .i64 1, .int .i64 0, .bool false, .slice .full 0 []] s (.slice .shared 16 ((cB 1 0 false [] l).map eh)) s:=by
 refine aI.pure ?_ (by simp [D.bI,D.ok,Tag.ok,nh,D.ig]) (by simp [D.ok,Tag.ok,xK]) s
 obtain⟨N,hN⟩ : ∃ N,N=Sm.aO l:=⟨_,rfl⟩
 have ih:=Lf N (by omega)
 replace hs:Sm.aO l<N+1∧N<4611686018427387000:=by omega
 obtain⟨hs,hN⟩:=hs
 generalize hR:cB 1 0 false [] l=R
 obtain⟨deep,Gf⟩ : ∃ d:Int,d=1:=⟨_,rfl⟩
 obtain⟨bC,Lh⟩ : ∃ d:Int,d=0:=⟨_,rfl⟩
 obtain⟨aM,Li⟩ : ∃ d:Bool,d=false:=⟨_,rfl⟩
 rw [← Gf, ← Lh, ← Li]at hR
 rw [← Gf, ← Lh, ← Li]
 have zH:0≤deep:=by omega
 have hd:deep≤13:=by omega
 clear Gf Lh Li
 have ho:([] : List It).length≤201:=Nat.zero_le _
 unfold S0
 refine aI.go tx rfl fun B Q hB hQ=> ?_
 have⟨hD,hJ,hP,hZ⟩:=b7
 repeat' (first
 | simp only [go_sem,hD,hJ,hP,hZ]
 | (with_reducible refine aJ hQ ?_;simp only [az,aB,Option.some.injEq,exists_eq_left',go_sem,hD,hJ,hP,hZ];repeat' (first | exact Ok.out | with_reducible refine aR ?_ ?_ | (simp;done))))
 refine bq.o8 4 16 rfl ?_
 simp only [go_sem,hD,hJ,hP,hZ]
 refine dG 0 1 (bq.ind (ι:=List Sm×Nat×List It×Nat) (fun i=>l.drop i.2.1=i.1∧cB deep bC aM i.2.2.1 i.1=R∧i.2.2.1.length≤201∧i.2.2.2=i.2.2.1.length) (fun i=>i.1.length)
  (fun i=> [(0, .slice .shared 13 (l.map a7)),(1, .int .i64 deep),(2, .int .i64 bC),(3, .bool aM),(4, .slice (.tok 0) 16 (i.2.2.1.map eh)),(11, .int .i64 (i.2.1:Int))]) (fun i=>⟨[],[some i.2.2.2]⟩) ?_ (l,0,[],0) ⟨rfl,hR,ho,rfl⟩)
 rintro⟨rest,k,out,n⟩ ⟨h1,h2,h3,h4⟩ IH
 dsimp only at h1 h2 h3 h4
 subst h4
 have hlen:l.length<4611686018427387904:=by have:=Sm.cH l;omega
 cases rest with
 | nil=>
  have hD:=drop_nil h1
  simp only [cB]at h2
  subst h2
  repeat' (first
 | simp only [go_sem,hD,hJ,hP,hZ]
 | (with_reducible refine aJ hQ ?_;simp only [az,aB,Option.some.injEq,exists_eq_left',go_sem,hD,hJ,hP,hZ];repeat' (first | exact Ok.out | with_reducible refine aR ?_ ?_ | (simp;done))))
 | cons v rest=>
  obtain⟨hJ,g2,hD,g4⟩:=drop_cons h1
  have bE:k<4611686018427387904:=by omega
  have hv:=Sm.bW (List.mem_of_getElem? hJ)
  have lr:Sm.aO v.aY<N∧Sm.aO v.aM<N:=by
   obtain⟨_,_,_,_,_,_,_,_,_,_⟩:=v
   simp only [Sm.size]at hv ⊢;omega
  simp only [cB]at h2
  by_cases hc:out.length≤200
  ·have c1:decide ((out.length:Int)≤200)=true:=by simp;omega
   simp only [c1, ↓reduceIte,Ch]at h2
   have hP:(out.length+1)*233≤bt:=by unfold bt;omega
   have k7:(out++ [(⟨v,deep,bC,aM⟩:It)]).length≤201:=by simp;omega
   have hw:IntKind.wrap .i64 (deep+1)=deep+1:=dk (by omega) (by omega)
   by_cases Wb:deep≤12
   ·have c2:decide (deep≤12)=true:=by simp;omega
    simp only [c2, ↓reduceIte]at h2
    have f1:=fun {s:St} {t:Nat} (ht:s.aw[t]? = some (some (out++ [(⟨v,deep,bC,aM⟩:It)]).length))=>ih v.aY (deep+1) v.id false _ lr.1 (by omega) (by omega) k7 ht
    have f2:=fun {s:St} {t:Nat} (ht:s.aw[t]? = some (some (cB (deep+1) v.id false (out++ [(⟨v,deep,bC,aM⟩:It)]) v.aY).length))=>ih v.aM (deep+1) v.id true _ lr.2 (by omega) (by omega) (iF _ _ _ _ k7 _) ht
    simp only [List.map_append,List.map_cons,List.map_nil,yS,List.length_append,List.length_cons,List.length_nil]at f1
    repeat' (first
 | simp only [go_sem,hD,hJ,hP,hZ,c1,c2,hw,bJ]
 | (with_reducible refine CU (f1 (by with_unfolding_all rfl)) ?_)
 | (with_reducible refine CU (f2 (by with_unfolding_all rfl)) ?_)
 | (with_reducible refine aJ hQ ?_;simp only [az,aB,Option.some.injEq,exists_eq_left',go_sem,hD,hJ,hP,hZ];repeat' (first | exact Ok.out | with_reducible refine aR ?_ ?_ | (simp;done))))
    refine dt 0 1 ?_ ?_ (IH (rest,k+1,_,_) ⟨g2,h2,iF _ _ _ _ (iF _ _ _ _ k7 _) _,rfl⟩ (Nat.lt_succ_self _))
    ·(simp only [go_sem,hD,hJ,hP,hZ,aF bE];try exact br)
    ·(simp only [go_sem,hD,hJ,hP,hZ,aF bE];try exact br)
   ·have c2:decide (deep≤12)=false:=by simp;omega
    simp only [c2,Bool.false_eq_true, ↓reduceIte]at h2
    repeat' (first
 | simp only [go_sem,hD,hJ,hP,hZ,c1,c2,bJ]
 | (with_reducible refine aJ hQ ?_;simp only [az,aB,Option.some.injEq,exists_eq_left',go_sem,hD,hJ,hP,hZ];repeat' (first | exact Ok.out | with_reducible refine aR ?_ ?_ | (simp;done))))
    refine dt 0 1 ?_ ?_ (IH (rest,k+1,out++ [⟨v,deep,bC,aM⟩],out.length+1) ⟨g2,h2,k7,by simp⟩ (Nat.lt_succ_self _))
    ·(simp only [go_sem,hD,hJ,hP,hZ,aF bE,yS,List.map_append,List.map_cons,List.map_nil];try exact br)
    ·(simp only [go_sem,hD,hJ,hP,hZ,aF bE,yS,List.map_append,List.map_cons,List.map_nil];try exact br)
  ·have c1:decide ((out.length:Int)≤200)=false:=by simp;omega
   simp only [c1,Bool.false_eq_true, ↓reduceIte]at h2
   subst h2
   repeat' (first
 | simp only [go_sem,hD,hJ,hP,hZ,c1]
 | (with_reducible refine aJ hQ ?_;simp only [az,aB,Option.some.injEq,exists_eq_left',go_sem,hD,hJ,hP,hZ];repeat' (first | exact Ok.out | with_reducible refine aR ?_ ?_ | (simp;done))))
theorem Iv {f:Pc} (hs:Sm.aO f.body<4611686018427387000) (s:St):aI Try.prog oA [.agg (bT f)] s (.slice .shared 16 (f.flat.map eh)) s:=by
 refine aI.pure ?_ (by simp only [D.bI,D.ok,uD];rfl) (by simp [D.ok,Tag.ok,xK]) s
 have h:=fun s=>Lg hs s
 unfold S0
 refine aI.go AB rfl fun B Q hB hQ=> ?_
 have⟨hD,hJ,hP,hZ⟩:=b7
 repeat' (first
 | simp only [go_sem,hD,hJ,hP,hZ,Pc.flat]
 | (with_reducible refine CU (h _) ?_)
 | (with_reducible first | refine cm fun hc=> ?_ | refine cq fun hc=> ?_ | refine cr (fun hc=> ?_) fun hc=> ?_) <;> (try simp only [hc,bs, ↓reduceIte]at h) <;> try simp only [hc]
 | (with_reducible refine aJ hQ ?_;simp only [az,aB,cY,cZ,go_sem,hD,hJ,hP,hZ,Pc.flat];repeat' (first | exact Ok.out | with_reducible refine aR ?_ ?_ | (simp;done))))
end Go.Abs

/-! RefMay4 -/

namespace Go.Abs
set_option maxRecDepth 8000
open Go.Proofs
theorem Pc.Ci (f:Pc):f.flat.length≤201:=iF _ _ _ _ (Nat.zero_le _) _
theorem SR {p:Pg} (hs:Pc.aO p.procs<4611686018427387000) (s:St):aI Try.prog sO [.agg (bP p)] s (.slice .shared 16 (p.all.map eh)) s:=by
 refine aI.pure ?_ (by simp only [D.bI,D.ok,iU];rfl) (by simp [D.ok,Tag.ok,xK]) s
 have hlen:p.procs.length<4611686018427387904:=by have:=Pc.cH p.procs;omega
 generalize hR:p.all=R
 unfold Pg.all at hR
 unfold S0
 refine aI.go B7 rfl fun B Q hB hQ=> ?_
 have⟨hD,hJ,hP,hZ⟩:=b7
 repeat' (first
 | simp only [go_sem,hD,hJ,hP,hZ]
 | (with_reducible refine aJ hQ ?_;simp only [az,aB,cY,cZ,go_sem,hD,hJ,hP,hZ];repeat' (first | exact Ok.out | with_reducible refine aR ?_ ?_ | (simp;done))))
 refine bq.o8 3 16 rfl ?_
 simp only [go_sem,hD,hJ,hP,hZ]
 refine dG 1 1 (bq.ind (ι:=List Pc×Nat×List It×Nat) (fun i=>p.procs.drop i.2.1=i.1∧allM i.2.2.1 i.1=R∧i.2.2.1.length≤200∧i.2.2.2=i.2.2.1.length) (fun i=>i.1.length)
  (fun i=> [(1, .ptr 0 0),(3, .slice (.tok 0) 16 (i.2.2.1.map eh)),(7, .slice .shared 5 (p.procs.map bT)),(8, .int .i64 (p.procs.length:Int)),(9, .int .i64 (i.2.1:Int))]) (fun i=>⟨[bP p],[some i.2.2.2]⟩) ?_ (p.procs,0,[],0) ⟨rfl,hR,Nat.zero_le _,rfl⟩)
 rintro⟨rest,k,out,n⟩ ⟨h1,h,h3,h4⟩ IH
 dsimp only at h1 h h3 h4
 subst h4
 cases rest with
 | nil=>
  have hD:=drop_nil h1
  simp only [allM]at h
  subst h
  repeat' (first
 | simp only [go_sem,hD,hJ,hP,hZ]
 | (with_reducible refine aJ hQ ?_;simp only [az,aB,cY,cZ,go_sem,hD,hJ,hP,hZ];repeat' (first | exact Ok.out | with_reducible refine aR ?_ ?_ | (simp;done))))
 | cons f rest=>
  obtain⟨hJ,g2,hD,g4⟩:=drop_cons h1
  have bE:k<4611686018427387904:=by omega
  have hf:=Pc.bW (List.mem_of_getElem? hJ)
  have hb:Sm.aO f.body<4611686018427387000:=by simp only [Pc.size]at hf;omega
  have jV:=fun s=>Iv hb s
  have ad6:=f.Ci
  have hP:(out.length+f.flat.length)*233≤bt:=by unfold bt;omega
  simp only [allM,List.length_append]at h
  have eU:=fun(o:List (List D))=>BV (size:=16) (bytes:=232) (t:=0) (rows:=out.map eh) (new:=f.flat.map eh) (g:= .shared) (s:=⟨o,[some out.length]⟩) (by simpa using hP) (by simp)
  repeat' (first
 | simp only [go_sem,hD,hJ,hP,hZ,eU]
 | (with_reducible refine CU (jV _) ?_)
 | (with_reducible first | refine cm fun hc=> ?_ | refine cq fun hc=> ?_ | refine cr (fun hc=> ?_) fun hc=> ?_) <;> (try simp only [hc,bs, ↓reduceIte]at h) <;> try simp only [hc]
 | (with_reducible refine aJ hQ ?_;(try cases h);simp only [az,aB,cY,cZ,go_sem,hD,hJ,hP,hZ,eU];repeat' (first | exact Ok.out | with_reducible refine aR ?_ ?_ | (simp;done))))
  refine dt 1 1 ?_ ?_ (IH (rest,k+1,out++f.flat,out.length+f.flat.length) ⟨g2,h,by rename_i hc;simp only [decide_eq_false_iff_not]at hc;simp only [List.length_append];omega,by simp⟩ (Nat.lt_succ_self _))
  ·(simp only [go_sem,hD,hJ,hP,hZ,aF bE];try exact br)
  ·(simp only [go_sem,hD,hJ,hP,hZ,aF bE];try exact br)
structure Pg.py (p:Pg):Prop where
 sz:p.size<4611686018427387000
 Cj : ∀ t∈p.globals,t.length<4611686018427387904
 jx : ∀ f∈p.procs,f.name.length<4611686018427387904∧(∀ t∈f.vars,t.length<4611686018427387904)∧(∀ t∈f.fin,t.length<4611686018427387904)∧∀ a∈f.params,a.name.length<4611686018427387904
 items : ∀ i∈p.all,i.s.py
end Go.Abs

/-! TMay3 -/

namespace Go.Abs
set_option maxRecDepth 8000
open Go.Proofs
def gate (nest:Int) (len n:Nat) (r:Bool×Nat):Bool×Nat:=if decide (nest > 12) && decide ((len:Int) > 0)then(false,n)else r
mutual
def Sm.l8 (nest:Int) (n:Nat):Sm→Bool×Nat
 | ⟨id,kind,labels,name,proc,x,has,args,aY,aM⟩=>
  if decide (((n+1:Nat):Int) > 200) || id != ((n+1:Nat):Int) || !(dw labels) || !(Sm.fields ⟨id,kind,labels,name,proc,x,has,args,aY,aM⟩)then(false,n+1)
  else if !(gate (nest+1) aY.length (n+1) (Sm.dF (nest+1) (n+1) aY)).1 then(false,(gate (nest+1) aY.length (n+1) (Sm.dF (nest+1) (n+1) aY)).2)
  else gate (nest+1) aM.length (gate (nest+1) aY.length (n+1) (Sm.dF (nest+1) (n+1) aY)).2 (Sm.dF (nest+1) (gate (nest+1) aY.length (n+1) (Sm.dF (nest+1) (n+1) aY)).2 aM)
def Sm.dF (nest:Int) (n:Nat):List Sm→Bool×Nat
 | []=>(true,n)
 | s::l=>if !(Sm.l8 nest n s).1 then(false,(Sm.l8 nest n s).2)else Sm.dF nest (Sm.l8 nest n s).2 l
end
def Sm.eY (nest:Int) (n:Nat) (l:List Sm):Bool×Nat:=gate nest l.length n (Sm.dF nest n l)
theorem yT (nest:Int) (n:Nat) (s:Sm):Sm.l8 nest n s =
 if decide (((n+1:Nat):Int) > 200) || s.id != ((n+1:Nat):Int) || !(dw s.labels) || !(s.fields)then(false,n+1)
 else if !(Sm.eY (nest+1) (n+1) s.aY).1 then(false,(Sm.eY (nest+1) (n+1) s.aY).2)
 else Sm.eY (nest+1) (Sm.eY (nest+1) (n+1) s.aY).2 s.aM:=by
 cases s;simp only [Sm.l8,Sm.eY];rfl
mutual
def Sm.qV:Sm→Prop
 | ⟨id,kind,labels,name,proc,x,has,args,aY,aM⟩=>Sm.py ⟨id,kind,labels,name,proc,x,has,args,aY,aM⟩∧Sm.gR aY∧Sm.gR aM
def Sm.gR:List Sm→Prop
 | []=>True
 | s::l=>s.qV∧Sm.gR l
end
theorem wL (s:Sm):s.qV↔s.py∧Sm.gR s.aY∧Sm.gR s.aM:=by cases s;simp only [Sm.qV]
theorem xL {s:Sm} : ∀ {l:List Sm},Sm.gR l→s∈l→s.qV
 | y::l,h,m=>by
  simp only [Sm.gR]at h
  rcases List.mem_cons.1 m with rfl | m
  ·exact h.1
  ·exact xL h.2 m
mutual
theorem N9 (nest:Int) (n:Nat) : ∀ s:Sm,n≤201→(Sm.l8 nest n s).2≤202∧((Sm.l8 nest n s).1=true→(Sm.l8 nest n s).2≤200)
 | ⟨id,kind,labels,name,proc,x,has,args,aY,aM⟩,hn=>by
  simp only [Sm.l8]
  split
  ·exact⟨by dsimp only;omega,fun h=>by cases h⟩
  rename_i hc
  simp only [Bool.or_eq_true,decide_eq_true_eq,not_or]at hc
  have tA:n+1≤200:=by omega
  have g1 : ∀ (nest:Int) (l:List Sm) (m:Nat),m≤200→(Sm.dF nest m l).2≤202∧((Sm.dF nest m l).1=true→(Sm.dF nest m l).2≤200)→
   (gate nest l.length m (Sm.dF nest m l)).2≤202∧((gate nest l.length m (Sm.dF nest m l)).1=true→(gate nest l.length m (Sm.dF nest m l)).2≤200):=by
   intro nest l m hm h
   unfold gate
   split
   ·exact⟨by dsimp only;omega,fun h=>by cases h⟩
   ·exact h
  have h1:=g1 (nest+1) aY (n+1) tA (vv (nest+1) (n+1) aY tA)
  split
  ·exact⟨h1.1,fun h=>by cases h⟩
  rename_i OO
  have h2:=h1.2 (by simpa using OO)
  exact g1 (nest+1) aM _ h2 (vv (nest+1) _ aM h2)
theorem vv (nest:Int) (n:Nat) : ∀ l:List Sm,n≤200→(Sm.dF nest n l).2≤202∧((Sm.dF nest n l).1=true→(Sm.dF nest n l).2≤200)
 | [],hn=>by simp only [Sm.dF];exact⟨by omega,fun _=>hn⟩
 | s::l,hn=>by
  simp only [Sm.dF]
  have h1:=N9 nest n s (by omega)
  split
  ·exact⟨h1.1,fun h=>by cases h⟩
  rename_i hc
  exact vv nest _ l (h1.2 (by simpa using hc))
end
theorem yU {nest:Int} {n:Nat} {l:List Sm} (hn:n≤200):(Sm.eY nest n l).2≤202∧((Sm.eY nest n l).1=true→(Sm.eY nest n l).2≤200):=by
 unfold Sm.eY gate
 split
 ·exact⟨by dsimp only;omega,fun h=>by cases h⟩
 ·exact vv nest n l hn
theorem Oa : ∀ (m:Nat) (l:List Sm),Sm.aO l≤m→Sm.aO l<4611686018427387000→Sm.gR l→∀ (nest:Int) (n:Nat),0≤nest→nest≤13→n≤200→
 aI Try.prog gP [.ptr 0 0, .slice .shared 13 (l.map a7), .int .i64 nest] ⟨[[.int .i64 n]],[]⟩ (.bool (Sm.eY nest n l).1) ⟨[[.int .i64 (Sm.eY nest n l).2]],[]⟩:=by
 intro m
 induction m with
 | zero=>
  intro l h hs hf nest n h0 h13 hn
  cases l with
  | nil=>
   have d1:decide ((0:Int) > 0)=false:=rfl
   have e:Sm.eY nest n [] = (true,n):=by simp [Sm.eY,gate,Sm.dF]
   have z:decide ((0:Int)<0)=false:=rfl
   rw [e]
   refine aI.go nA rfl fun B Q hB hQ=> ?_
   have⟨hD,hJ,hP,hZ⟩:=b7
   repeat' (first
 | simp only [go_sem,hD,hJ,hP,hZ,d1,z]
 | (with_reducible refine bq.AY ?_)
 | (with_reducible first | refine cm fun hc=> ?_ | refine cq fun hc=> ?_ | refine cr (fun hc=> ?_) fun hc=> ?_) <;> (try simp only [hc,bs, ↓reduceIte]at h) <;> try simp only [hc]
 | (with_reducible refine aJ hQ ?_;(try cases h);simp only [az,aB,cY,cZ,go_sem,hD,hJ,hP,hZ,d1,z];try exact iD)
 | (cases h;done))
  | cons s l=>simp only [Sm.aO]at h;omega
 | succ m ih=>
  intro l h hs hf nest n h0 h13 hn
  generalize hR:Sm.eY nest n l=R
  have hlen:=Sm.cH l
  unfold Sm.eY gate at hR
  have h:=hR
  refine aI.go nA rfl fun B Q hB hQ=> ?_
  have⟨hD,hJ,hP,hZ⟩:=b7
  repeat' (first
 | simp only [go_sem,hD,hJ,hP,hZ]
 | (with_reducible first | refine cm fun hc=> ?_ | refine cq fun hc=> ?_ | refine cr (fun hc=> ?_) fun hc=> ?_) <;> (try simp only [hc,bs, ↓reduceIte]at h) <;> try simp only [hc]
 | (with_reducible refine aJ hQ ?_;(try cases h);simp only [az,aB,cY,cZ,go_sem,hD,hJ,hP,hZ];repeat' (first | exact Ok.out | with_reducible refine aR ?_ ?_ | (simp;done)))
 | (cases h;done))
  all_goals
   have SS:l≠ []→nest≤12:=by
    intro dP
    have:l.length≠0:=by simpa using dP
    simp_all <;> omega
   refine dG 1 0 (bq.ind (ι:=List Sm×Nat×Nat) (fun i=>l.drop i.2.1=i.1∧Sm.dF nest i.2.2 i.1=R∧i.2.2≤200) (fun i=>i.1.length)
    (fun i=> [(0, .ptr 0 0),(2, .int .i64 nest),(16, .slice .shared 13 (l.map a7)),(17, .int .i64 (l.length:Int)),(18, .int .i64 (i.2.1:Int))]) (fun i=>⟨[[.int .i64 (i.2.2:Int)]],[]⟩) ?_ (l,0,n) ⟨rfl,h,hn⟩)
   rintro⟨rest,k,j⟩ ⟨h1,h,hj⟩ IH
   dsimp only at h1 h hj
   cases rest with
   | nil=>
    have hD:=drop_nil h1
    simp only [Sm.dF]at h
    repeat' (first
 | simp only [go_sem,hD,hJ,hP,hZ]
 | (with_reducible first | refine cm fun hc=> ?_ | refine cq fun hc=> ?_ | refine cr (fun hc=> ?_) fun hc=> ?_) <;> (try simp only [hc,bs, ↓reduceIte]at h) <;> try simp only [hc]
 | (with_reducible refine aJ hQ ?_;exact ik)
 | (cases h;done))
   | cons s rest=>
    obtain⟨hJ,g2,hD,g4⟩:=drop_cons h1
    have hP:k<4611686018427387904:=by omega
    have kW:=List.mem_of_getElem? hJ
    have dC:=Sm.bW kW
    have ad7:=SS (by rintro rfl;simp at kW)
    obtain⟨xi,hft,hfe⟩:=(wL s).1 (xL hf kW)
    have Wc:Sm.aO s.aY<s.size∧Sm.aO s.aM<s.size:=by cases s;simp only [Sm.size];omega
    have w1:IntKind.wrap .i64 ((j:Int)+1)=((j+1:Nat):Int):=by rw [dk] <;> omega
    have w2:IntKind.wrap .i64 (nest+1)=nest+1:=dk (by omega) (by omega)
    have c1:=fun s=>sV xi.V7 xi.lab s
    have c2:=fun s=>Lc xi s
    simp only [Sm.dF,yT]at h
    by_cases Iw:j+1≤200
    ·have r1:=yU (nest:=nest+1) (l:=s.aY) Iw
     have c3:=fun s' ho=>(ih s.aY (by omega) (by omega) hft (nest+1) (j+1) (by omega) (by omega) Iw).JN (s:=s') (o:=0) (by simp [D.bI,D.ok,nh,Tag.ok]) rfl rfl rfl ho
     by_cases tB:(Sm.eY (nest+1) (j+1) s.aY).1=true
     ·have c4:=fun s' ho=>(ih s.aM (by omega) (by omega) hfe (nest+1) _ (by omega) (by omega) (r1.2 tB)).JN (s:=s') (o:=0) (by simp [D.bI,D.ok,nh,Tag.ok]) rfl rfl rfl ho
      have r2:=yU (nest:=nest+1) (l:=s.aM) (r1.2 tB)
      simp only [tB]at c3
      simp only [tB,Bool.not_true,Bool.false_eq_true, ↓reduceIte]at h
      repeat' (first
 | simp only [go_sem,hD,hJ,hP,hZ,w1,w2,tB]
 | (with_reducible refine CU (c1 _) ?_)
 | (with_reducible refine CU (c2 _) ?_)
 | (with_reducible refine CU (c3 _ rfl) ?_)
 | (with_reducible refine CU (c4 _ rfl) ?_)
 | (with_reducible first | refine cm fun hc=> ?_ | refine cq fun hc=> ?_ | refine cr (fun hc=> ?_) fun hc=> ?_) <;> (try simp only [hc,bs, ↓reduceIte]at h) <;> try simp only [hc]
 | (with_reducible refine aJ hQ ?_;(try cases h);simp only [az,aB,cY,cZ,go_sem,hD,hJ,hP,hZ,w1,w2,tB];try exact iD)
 | (cases h;done))
      refine dG 1 0 (IH (rest,k+1,(Sm.eY (nest+1) (Sm.eY (nest+1) (j+1) s.aY).2 s.aM).2) ⟨g2,h,r2.2 (by assumption)⟩ (Nat.lt_succ_self _))
     ·have tB:(Sm.eY (nest+1) (j+1) s.aY).1=false:=by simpa using tB
      simp only [tB]at c3
      simp only [tB,Bool.not_false, ↓reduceIte]at h
      repeat' (first
 | simp only [go_sem,hD,hJ,hP,hZ,w1,w2,tB]
 | (with_reducible refine CU (c1 _) ?_)
 | (with_reducible refine CU (c2 _) ?_)
 | (with_reducible refine CU (c3 _ rfl) ?_)
 | (with_reducible first | refine cm fun hc=> ?_ | refine cq fun hc=> ?_ | refine cr (fun hc=> ?_) fun hc=> ?_) <;> (try simp only [hc,bs, ↓reduceIte]at h) <;> try simp only [hc]
 | (with_reducible refine aJ hQ ?_;(try cases h);simp only [az,aB,cY,cZ,go_sem,hD,hJ,hP,hZ,w1,w2,tB];try exact iD)
 | (cases h;done))
    ·have d1:decide (((j+1:Nat):Int) > 200)=true:=by simp;omega
     simp only [d1,Bool.true_or,Bool.not_false, ↓reduceIte]at h
     repeat' (first
 | simp only [go_sem,hD,hJ,hP,hZ,w1,w2,d1]
 | (with_reducible refine CU (c1 _) ?_)
 | (with_reducible refine CU (c2 _) ?_)
 | (with_reducible first | refine cm fun hc=> ?_ | refine cq fun hc=> ?_ | refine cr (fun hc=> ?_) fun hc=> ?_) <;> (try simp only [hc,bs, ↓reduceIte]at h) <;> try simp only [hc]
 | (with_reducible refine aJ hQ ?_;(try cases h);simp only [az,aB,cY,cZ,go_sem,hD,hJ,hP,hZ,w1,w2,d1];try exact iD)
 | (cases h;done))
end Go.Abs

/-! TMay4 -/

namespace Go.Abs
set_option maxRecDepth 8000
open Go.Proofs
def Pc.dF (n:Nat):List Pc→Bool
 | []=>true
 | f::l=>
  if decide ((f.params.length:Int) > 8) || decide ((f.vars.length:Int) > 16) || !(isName f.name) || !(dw f.vars) || !(dw f.fin)then false
  else if !(Pm.dN f.params)then false
  else if !(Sm.eY 1 n f.body).1 then false
  else Pc.dF (Sm.eY 1 n f.body).2 l
def Pg.yV (p:Pg):Bool:=
 if decide ((p.globals.length:Int) > 16) || decide ((p.procs.length:Int) > 16) || !(dw p.globals)then false
 else Pc.dF 0 p.procs
structure Pg.A6 (p:Pg):Prop where
 sz:p.size<4611686018427387000
 Cj : ∀ t∈p.globals,t.length<4611686018427387904
 jx : ∀ f∈p.procs,f.name.length<4611686018427387904∧(∀ t∈f.vars,t.length<4611686018427387904)∧(∀ t∈f.fin,t.length<4611686018427387904)∧∀ a∈f.params,a.name.length<4611686018427387904
 body : ∀ f∈p.procs,Sm.gR f.body
theorem QE {p:Pg} (hf:p.A6) (s:St):aI Try.prog sP [.agg (bP p)] s (.bool p.yV) s:=by
 refine aI.pure ?_ (by simp only [D.bI,D.ok,iU];rfl) rfl s
 obtain⟨dC,sr,QF,EB⟩:=hf
 have qW:Pc.aO p.procs<4611686018427387000:=by simp only [Pg.size]at dC;omega
 have SU:p.globals.length<4611686018427387904:=by simp only [Pg.size]at dC;omega
 have adN:p.procs.length<4611686018427387904:=by have:=Pc.cH p.procs;omega
 have hg:=fun s=>sV SU sr s
 unfold S0
 generalize h:p.yV=R
 unfold Pg.yV at h
 refine aI.go B8 rfl fun B Q hB hQ=> ?_
 have⟨hD,hJ,hP,hZ⟩:=b7
 repeat' (first
 | simp only [go_sem,hD,hJ,hP,hZ]
 | (with_reducible refine CU (hg _) ?_)
 | (with_reducible first | refine cm fun hc=> ?_ | refine cq fun hc=> ?_ | refine cr (fun hc=> ?_) fun hc=> ?_) <;> (try simp only [hc,bs, ↓reduceIte]at h) <;> try simp only [hc]
 | (with_reducible refine aJ hQ ?_;exact ik)
 | (cases h;done))
 refine dG 2 0 (bq.ind (ι:=List Pc×Nat×Nat) (fun i=>p.procs.drop i.2.1=i.1∧Pc.dF i.2.2 i.1=R∧i.2.2≤200) (fun i=>i.1.length)
  (fun i=> [(1, .ptr 0 0),(3, .ptr 1 0),(27, .slice .shared 5 (p.procs.map bT)),(28, .int .i64 (p.procs.length:Int)),(29, .int .i64 (i.2.1:Int))]) (fun i=>⟨[bP p,[.int .i64 (i.2.2:Int)]],[]⟩) ?_ (p.procs,0,0) ⟨rfl,h,Nat.zero_le _⟩)
 rintro⟨rest,k,n⟩ ⟨h1,h,hn⟩ IH
 dsimp only at h1 h hn
 cases rest with
 | nil=>
  have hD:=drop_nil h1
  simp only [Pc.dF]at h
  repeat' (first
 | simp only [go_sem,hD,hJ,hP,hZ]
 | (with_reducible first | refine cm fun hc=> ?_ | refine cq fun hc=> ?_ | refine cr (fun hc=> ?_) fun hc=> ?_) <;> (try simp only [hc,bs, ↓reduceIte]at h) <;> try simp only [hc]
 | (with_reducible refine aJ hQ ?_;exact ik)
 | (cases h;done))
 | cons f rest=>
  obtain⟨hJ,g2,hD,g4⟩:=drop_cons h1
  have bE:k<4611686018427387904:=by omega
  have kW:=List.mem_of_getElem? hJ
  have MQ:=Pc.bW kW
  simp only [Pc.size]at MQ
  obtain⟨tC,hfv,hff,hfp⟩:=QF f kW
  have Ix:=uQ f.name tC
  have hv:=fun s=>sV (by omega) hfv s
  have he:=fun s=>sV (by omega) hff s
  have hb:=fun s' o ho=>(Oa _ f.body (Nat.le_refl _) (by omega) (EB f kW) 1 n (by omega) (by omega) hn).JN (s:=s') (o:=o) (by simp [D.bI,D.ok,nh,Tag.ok]) rfl rfl rfl ho
  have hle:=yU (nest:=1) (l:=f.body) hn
  simp only [Pc.dF]at h
  repeat' (first
 | simp only [go_sem,hD,hJ,hP,hZ]
 | (with_reducible refine CU (Ix _) ?_)
 | (with_reducible refine CU (hv _) ?_)
 | (with_reducible refine CU (he _) ?_)
 | (with_reducible first | refine cm fun hc=> ?_ | refine cq fun hc=> ?_ | refine cr (fun hc=> ?_) fun hc=> ?_) <;> (try simp only [hc,bs, ↓reduceIte]at h) <;> try simp only [hc]
 | (with_reducible refine aJ hQ ?_;exact ik)
 | (cases h;done))
  refine dG 3 0 (bq.ind (ι:=List Pm×Nat) (fun i=>f.params.drop i.2=i.1∧(if !(Pm.dN i.1)then false else if !(Sm.eY 1 n f.body).1 then false else Pc.dF (Sm.eY 1 n f.body).2 rest)=R) (fun i=>i.1.length)
   (fun i=> [(1, .ptr 0 0),(3, .ptr 1 0),(5, .ptr 2 0),(27, .slice .shared 5 (p.procs.map bT)),(28, .int .i64 (p.procs.length:Int)),(29, .int .i64 (k:Int)),(62, .slice .shared 2 (f.params.map fz)),(63, .int .i64 (f.params.length:Int)),(64, .int .i64 (i.2:Int))]) (fun i=>⟨[bP p,[.int .i64 (n:Int)],bT f],[]⟩) ?_ (f.params,0) ⟨rfl,h⟩)
  rintro⟨Gg,j⟩ ⟨j1,h⟩ xM
  dsimp only at j1 h
  cases Gg with
  | nil=>
   have hD:=drop_nil j1
   simp only [Pm.dN,Bool.not_true,Bool.false_eq_true, ↓reduceIte]at h
   repeat' (first
 | simp only [go_sem,hD,hJ,hP,hZ]
 | (with_reducible refine CU (hb _ _ rfl) ?_)
 | (with_reducible first | refine cm fun hc=> ?_ | refine cq fun hc=> ?_ | refine cr (fun hc=> ?_) fun hc=> ?_) <;> (try simp only [hc,bs, ↓reduceIte]at h) <;> try simp only [hc]
 | (with_reducible refine aJ hQ ?_;exact ik)
 | (cases h;done))
   refine dt 2 0 ?_ ?_ (IH (rest,k+1,(Sm.eY 1 n f.body).2) ⟨g2,h,hle.2 (by assumption)⟩ (Nat.lt_succ_self _))
   ·(simp only [go_sem,hD,hJ,hP,hZ,aF bE];try exact br)
   ·(simp only [go_sem,hD,hJ,hP,hZ,aF bE];try exact br)
  | cons a Gg=>
   obtain⟨hJ,b2,hD,b4⟩:=drop_cons j1
   have Iw:j<4611686018427387904:=by omega
   have ha:=uQ a.name (hfp a (List.mem_of_getElem? hJ))
   simp only [Pm.dN]at h
   repeat' (first
 | simp only [go_sem,hD,hJ,hP,hZ]
 | (with_reducible refine CU (ha _) ?_)
 | (with_reducible first | refine cm fun hc=> ?_ | refine cq fun hc=> ?_ | refine cr (fun hc=> ?_) fun hc=> ?_) <;> (try simp only [hc,bs, ↓reduceIte]at h) <;> try simp only [hc]
 | (with_reducible refine aJ hQ ?_;exact ik)
 | (cases h;done))
   refine dt 3 0 ?_ ?_ (xM (Gg,j+1) ⟨b2,h⟩ (Nat.lt_succ_self _))
   ·(simp only [go_sem,hD,hJ,hP,hZ,aF Iw];try exact br)
   ·(simp only [go_sem,hD,hJ,hP,hZ,aF Iw];try exact br)
end Go.Abs

/-! MayFine -/

namespace Go.Abs
theorem sW {s:aD} (h:isName s=true):s.length≤8:=by
 cases s with
 | nil=>simp
 | cons c r=>
  simp only [isName]at h
  split at h
  ·cases h
  ·rename_i hc
   simp only [Bool.or_eq_true,decide_eq_true_eq,not_or]at hc
   simp only [List.length_cons];omega
theorem lF {t:aD} : ∀ {l:List aD},dw l=true→t∈l→isName t=true
 | s::l,h,m=>by
  simp only [dw]at h
  cases hs:isName s
  ·simp [hs]at h
  ·simp [hs]at h
   rcases List.mem_cons.1 m with rfl | m
   ·exact hs
   ·exact lF h m
theorem Ck {a:Ar} : ∀ {l:List Ar},Ar.dN l=true→a∈l→a.may=true
 | s::l,h,m=>by
  simp only [Ar.dN]at h
  cases hs:s.may
  ·simp [hs]at h
  ·simp [hs]at h
   rcases List.mem_cons.1 m with rfl | m
   ·exact hs
   ·exact Ck h m
theorem zI {a:Pm} : ∀ {l:List Pm},Pm.dN l=true→a∈l→isName a.name=true
 | s::l,h,m=>by
  simp only [Pm.dN]at h
  cases hs:isName s.name
  ·simp [hs]at h
  ·simp [hs]at h
   rcases List.mem_cons.1 m with rfl | m
   ·exact hs
   ·exact zI h m
mutual
theorem xN : ∀ x:Ex,x.form=true→x.texts
 | ⟨op,n,name,kids⟩,h=>by
  simp only [Ex.form]at h
  split at h
  ·cases h
  ·rename_i hc
   refine⟨?_,vY kids h⟩
   simp only [Bool.or_eq_true,Bool.and_eq_true,Bool.not_eq_true',not_or,not_and,Bool.not_eq_false]at hc
   cases hn:(name == [])
   ·have:=sW (hc.2 hn);omega
   ·simp at hn;subst hn;simp
theorem vY : ∀ l:List Ex,Ex.oB l=true→Ex.qk l
 | [],_=>trivial
 | x::l,h=>by
  simp only [Ex.oB]at h
  cases hx:x.form
  ·simp [hx]at h
  ·simp [hx]at h
   exact⟨xN x hx,vY l h⟩
end
theorem zJ {x:Ex} (h:x.may=true):x.texts:=by
 unfold Ex.may at h
 simp only [Bool.and_eq_true]at h
 exact xN x h.2
theorem xO {x:Ex} (h:x.none=true):x.texts:=by
 obtain⟨op,n,name,kids⟩:=x
 simp [Ex.none]at h
 obtain⟨⟨_,h1⟩,h2⟩:=h
 subst h1 h2
 exact⟨by simp,trivial⟩
mutual
theorem Iy {deep bC:Int} {aM:Bool} {out:List It} {i:It} : ∀ s:Sm,i∈fk deep bC aM out s→i∈out∨i.s.size≤s.size
 | ⟨id,kind,labels,name,proc,x,has,args,aY,e⟩,h=>by
  simp only [fk]at h
  have key:i∈out++ [(⟨⟨id,kind,labels,name,proc,x,has,args,aY,e⟩,deep,bC,aM⟩:It)]→i∈out∨i.s.size≤(⟨id,kind,labels,name,proc,x,has,args,aY,e⟩:Sm).size:=by
   intro h
   rcases List.mem_append.1 h with h | h
   ·exact .inl h
   ·simp at h;subst h;exact .inr (Nat.le_refl _)
  split at h
  ·rcases qX e h with h | h
   ·rcases qX aY h with h | h
    ·exact key h
    ·right;simp only [Sm.size];omega
   ·right;simp only [Sm.size];omega
  ·exact key h
theorem qX {deep bC:Int} {aM:Bool} {out:List It} {i:It} : ∀ l:List Sm,i∈cB deep bC aM out l→i∈out∨i.s.size<Sm.aO l
 | [],h=>by simp only [cB]at h;exact .inl h
 | s::l,h=>by
  simp only [cB]at h
  split at h
  ·rcases qX l h with h | h
   ·rcases Iy s h with h | h
    ·exact .inl h
    ·right;simp only [Sm.aO];omega
   ·right;simp only [Sm.aO];omega
  ·exact .inl h
end
theorem Cl {i:It} : ∀ (l:List Pc) (out:List It),i∈allM out l→i∈out∨i.s.size<Pc.aO l
 | [],out,h=>by simp only [allM]at h;exact .inl h
 | f::l,out,h=>by
  have key:i∈out++f.flat→i∈out∨i.s.size<Pc.aO (f::l):=by
   intro h
   rcases List.mem_append.1 h with h | h
   ·exact .inl h
   ·rcases qX _ h with h | h
    ·simp at h
    ·right;simp only [Pc.aO,Pc.size];omega
  simp only [allM]at h
  split at h
  ·exact key h
  ·rcases Cl l _ h with h | h
   ·exact key h
   ·right;simp only [Pc.aO];omega
theorem xP {i:It} : ∀ (l:List It) (n:Nat),It.dN n l=true→i∈l→i.s.one=true
 | s::l,n,h,m=>by
  simp only [It.dN]at h
  split at h
  ·cases h
  ·rename_i hc
   simp only [Bool.or_eq_true,Bool.not_eq_true',not_or,Bool.not_eq_false]at hc
   rcases List.mem_cons.1 m with rfl | m
   ·exact hc.2
   ·exact xP l (n+1) h m
theorem Cm {s:Sm} (h:s.one=true) (hs:s.size<4611686018427387000):s.py:=by
 unfold Sm.one at h
 split at h
 ·cases h
 split at h
 ·cases h
 split at h
 ·cases h
 split at h
 ·cases h
 rename_i c1 c2 c3 c4
 simp only [Bool.or_eq_true,Bool.and_eq_true,Bool.not_eq_true',not_or,not_and,Bool.not_eq_false,decide_eq_true_eq]at c1 c2 c3 c4
 obtain⟨⟨⟨⟨⟨_,_⟩,Wd⟩,cx⟩,cn⟩,_⟩:=c1
 obtain⟨c21,c22⟩:=c2
 obtain⟨⟨TT,c32⟩,c33⟩:=c3
 have nm : ∀ {t:aD},isName t=true→t.length<4611686018427387904:=fun h=>by have:=sW h;omega
 have dC:1+s.labels.length+s.x.size+Ar.aO s.args≤s.size:=by cases s;simp only [Sm.size];omega
 have tu:=Ar.cH s.args
 refine⟨fun t ht=>nm (lF Wd ht),by omega, ?_, ?_,by omega, ?_,by omega,fun a ha=> ?_⟩
 ·cases hn:s.hasName
  ·cases he:(s.name == [])
   ·exact nm (c22 ⟨hn,he⟩).2
   ·simp at he;rw [he];simp
  ·exact nm (c21 hn)
 ·cases Bs:s.oT
  ·rw [Bs]at TT
   have:s.proc = []:=by simpa using TT
   rw [this];simp
  ·exact nm (c32 Bs)
 ·cases hx:s.yO
  ·exact xO (cn hx)
  ·exact zJ (cx hx)
 ·have hm:=Ck c4 ha
  have MR:=Ar.bW ha
  unfold Ar.may at hm
  split at hm
  ·simp only [Bool.and_eq_true]at hm
   exact⟨by omega,xO hm.2,nm hm.1⟩
  ·simp only [Bool.and_eq_true,beq_iff_eq]at hm
   exact⟨by omega,zJ hm.2,by rw [hm.1];simp⟩
theorem zK {f:Pc} : ∀ {l:List Pc},Pc.jx l=true→f∈l→isName f.name=true∧dw f.vars=true∧dw f.fin=true∧Pm.dN f.params=true
 | s::l,h,m=>by
  simp only [Pc.jx]at h
  split at h
  ·cases h
  split at h
  ·cases h
  rename_i c1 c2
  simp only [Bool.or_eq_true,Bool.not_eq_true',not_or,Bool.not_eq_false]at c1 c2
  rcases List.mem_cons.1 m with rfl | m
  ·exact⟨c1.1.1.1.1,c1.1.2,c1.2,c2⟩
  ·exact zK h m
theorem Lj {p:Pg} (h:p.may=true) (hs:p.size<4611686018427387000):p.py:=by
 unfold Pg.may at h
 split at h
 ·cases h
 split at h
 ·cases h
 split at h
 ·cases h
 rename_i c1 c2 c3
 simp only [Bool.or_eq_true,Bool.not_eq_true',not_or,Bool.not_eq_false]at c1 c2
 have nm : ∀ {t:aD},isName t=true→t.length<4611686018427387904:=fun h=>by have:=sW h;omega
 refine⟨hs,fun t ht=>nm (lF c1.2 ht),fun f hf=> ?_,fun i hi=> ?_⟩
 ·obtain⟨a,b,c,d⟩:=zK c2 hf
  exact⟨nm a,fun t ht=>nm (lF b ht),fun t ht=>nm (lF c ht),fun t ht=>nm (zI d ht)⟩
 ·refine Cm (xP _ _ h hi) ?_
  rcases Cl _ _ hi with h1 | h1
  ·simp at h1
  ·simp only [Pg.size]at hs;omega
end Go.Abs

/-! MayEq -/

namespace Go.Abs
theorem Iz {t:aD} (h:isName t=true):t≠ []:=by rintro rfl;cases h
theorem Lk (op n:Int) (name:aD) (kids:List Ex):Ex.form ⟨op,n,name,kids⟩=true↔
 mh op=(kids.length:Int)∧(op=1∨n=0)∧0≤n∧(op=2↔name≠ [])∧(name = []∨isName name=true)∧Ex.oB kids=true:=by
 simp only [Ex.form]
 split
 ·rename_i h
  simp only [Bool.or_eq_true,Bool.and_eq_true,bne_iff_ne,ne_eq,decide_eq_true_eq,Bool.not_eq_true']at h
  refine⟨fun h=>(Bool.false_ne_true h).elim,fun⟨h1,h2,h3,h4,h5,_⟩=> ?_⟩
  exfalso
  rcases h with (((h | h) | h) | h) | h
  ·exact h h1
  ·rcases h2 with h2 | h2
   ·exact h.1 h2
   ·exact h.2 h2
  ·omega
  ·by_cases h2:op=2 <;> cases name <;> simp_all
  ·rcases h5 with h5 | h5
   ·subst h5;simp at h
   ·rw [h5]at h;simp at h
 ·rename_i h
  simp only [Bool.or_eq_true,Bool.and_eq_true,bne_iff_ne,ne_eq,decide_eq_true_eq,Bool.not_eq_true',not_or,not_and,Decidable.not_not,Bool.not_eq_false]at h
  obtain⟨⟨⟨⟨h1,h2⟩,h3⟩,h4⟩,h5⟩:=h
  refine⟨fun h=>⟨h1, ?_,by omega, ?_, ?_,h⟩,fun h=>h.2.2.2.2.2⟩
  ·by_cases h:op=1
   ·exact .inl h
   ·exact .inr (h2 h)
  ·by_cases h2:op=2 <;> cases name <;> simp_all
  ·cases name with
   | nil=>exact .inl rfl
   | cons c r=>exact .inr (h5 rfl)
theorem QG (op n:Int) (name:aD) (kids:List Ex) (k:Int):Ex.dp k ⟨op,n,name,kids⟩=true↔
 1≤k∧(kids.length:Int)=mh op∧(if op=1 then 0≤n∧name = []else if op=2 then n=0∧isName name=true else n=0∧name = []∧Ex.xI (k - 1) kids=true):=by
 simp only [Ex.dp]
 split
 ·rename_i h
  simp only [Bool.or_eq_true,decide_eq_true_eq,bne_iff_ne,ne_eq]at h
  refine⟨fun h=>(Bool.false_ne_true h).elim,fun⟨h1,h2,_⟩=> ?_⟩
  rcases h with h | h
  ·omega
  ·exact(h h2).elim
 rename_i h
 simp only [Bool.or_eq_true,decide_eq_true_eq,bne_iff_ne,ne_eq,not_or,Decidable.not_not]at h
 have h1:1≤k:=by omega
 simp only [h1,h.2,true_and]
 by_cases o1:op=1
 ·subst o1
  cases name <;> simp
 ·have o1' : ¬ (op==1)=true:=by simpa using o1
  rw [if_neg o1',if_neg o1]
  by_cases o2:op=2
  ·subst o2;simp
  ·have o2' : ¬ (op==2)=true:=by simpa using o2
   rw [if_neg o2',if_neg o2]
   by_cases hn:n=0
   ·subst hn
    cases name <;> simp
   ·simp [hn]
mutual
theorem MS : ∀ (x:Ex) (k:Int),0≤k→(x.dp k=true↔(x.depth:Int)≤k∧x.form=true)
 | ⟨op,n,name,kids⟩,k,hk=>by
  rw [QG,Lk]
  have hd:Ex.depth ⟨op,n,name,kids⟩=Ex.mf kids+1:=by simp only [Ex.depth]
  rw [hd]
  by_cases h1:1≤k
  ·have ih:=IA kids (k - 1) (by omega)
   by_cases o1:op=1
   ·subst o1
    have ha:mh 1=0:=rfl
    rw [ha,if_pos rfl]
    constructor
    ·rintro⟨_,h2,h3,h4⟩
     have:kids = []:=List.eq_nil_of_length_eq_zero (by omega)
     subst this;subst h4
     simp [Ex.mf,Ex.oB,h3];omega
    ·rintro⟨h2,h3,_,h4,h5,_⟩
     refine⟨h1,h3.symm,h4, ?_⟩
     cases name
     ·rfl
     ·simp at h5
   ·rw [if_neg o1]
    by_cases o2:op=2
    ·subst o2
     have ha:mh 2=0:=rfl
     rw [ha,if_pos rfl]
     constructor
     ·rintro⟨_,h2,h3,h4⟩
      have:kids = []:=List.eq_nil_of_length_eq_zero (by omega)
      subst this;subst h3
      have:=Iz h4
      simp [Ex.mf,Ex.oB,h4,this];omega
     ·rintro⟨h2,h3,h4,_,h5,h6,_⟩
      refine⟨h1,h3.symm,h4.resolve_left o1, ?_⟩
      exact h6.resolve_left (h5.1 rfl)
    ·rw [if_neg o2,ih]
     constructor
     ·rintro⟨_,h2,h3,h4,h5,h6⟩
      subst h3;subst h4
      exact⟨by omega,h2.symm, .inr rfl,Int.le_refl _,by simp [o2], .inl rfl,h6⟩
     ·rintro⟨h2,h3,h4,_,h5,h6,h7⟩
      refine⟨h1,h3.symm,h4.resolve_left o1, ?_,by omega,h7⟩
      exact Decidable.byContradiction fun h=>o2 (h5.2 h)
  ·constructor
   ·rintro⟨h,_⟩;exact(h1 h).elim
   ·rintro⟨h,_⟩;omega
theorem IA : ∀ (l:List Ex) (k:Int),0≤k→(Ex.xI k l=true↔(Ex.mf l:Int)≤k∧Ex.oB l=true)
 | [],k,hk=>by simp [Ex.xI,Ex.mf,Ex.oB,hk]
 | x::l,k,hk=>by
  have h1:=MS x k hk
  have h2:=IA l k hk
  have hd:Ex.mf (x::l)=max x.depth (Ex.mf l):=by simp only [Ex.mf]
  rw [hd]
  simp only [Ex.xI,Ex.oB]
  cases hx:Ex.dp k x
  ·simp only [Bool.not_false, ↓reduceIte,Bool.false_eq_true,false_iff,not_and]
   intro h3
   have : ¬ ((x.depth:Int)≤k∧x.form=true):=by rw [← h1,hx];simp
   have hf:x.form=false:=by
    cases hf:x.form
    ·rfl
    ·exact(this ⟨by omega,hf⟩).elim
   simp [hf]
  ·have:=h1.1 hx
   simp only [Bool.not_true,Bool.false_eq_true, ↓reduceIte,this.2,h2]
   have h3:=this.1
   refine and_congr_left fun _=> ?_
   omega
end
theorem IB (x:Ex):x.dp 20=x.may:=by
 rw [Bool.eq_iff_iff,MS x 20 (by omega)]
 unfold Ex.may
 simp only [Bool.and_eq_true,decide_eq_true_eq]
 refine and_congr_left fun _=> ?_
 omega
theorem zL (x:Ex) (b:Bool):qo x b=if b then x.may else x.none:=by
 unfold qo
 rw [IB]
 cases b <;> simp
theorem zM (t:aD) (b:Bool):oU t b=if b then isName t else t == []:=by
 unfold oU
 cases b <;> simp
theorem vZ : ∀ l:List Ar,lQ l=Ar.dN l
 | []=>rfl
 | a::l=>by
  simp only [lQ,Ar.dN,Ar.may,zL,zM,vZ l]
  grind
theorem Wf {α:Type} (l:List α):((l.length:Int)==0) = !(decide ((l.length:Int) > 0)):=by
 cases l with
 | nil=>rfl
 | cons a l=>
  have h1:(((a::l).length:Int)==0)=false:=by simp only [List.length_cons,beq_eq_false_iff_ne];omega
  have h2:decide (((a::l).length:Int) > 0)=true:=by simp only [List.length_cons,decide_eq_true_eq];omega
  rw [h1,h2];rfl
theorem xQ (s:Sm):s.one=(dw s.labels && s.fields):=by
 have hk:s.kind=1∨s.kind=2∨s.kind=3∨s.kind=4∨s.kind=5∨s.kind=6∨s.kind=7∨s.kind=8∨s.kind=9∨s.kind=10∨s.kind<1∨s.kind > 10:=by omega
 unfold Sm.one Sm.fields Sm.flags Sm.yO Sm.hasName Sm.oT
 have p1:isName [] = false:=rfl
 rcases hk with h | h | h | h | h | h | h | h | h | h | h | h
 all_goals
  simp only [h,Wf,vZ,zL,zM,Sm.A5,Sm.A4]
  grind
end Go.Abs

/-! Nm1 -/

namespace Go.Abs
set_option maxRecDepth 8000
open Go.Proofs
mutual
def Ex.ky (out:List aD):Ex→List aD
 | ⟨op,_,name,kids⟩=>Ex.jb (if op==2 && !(dY out name)then out++ [name]else out) kids
def Ex.jb (out:List aD):List Ex→List aD
 | []=>out
 | x::l=>Ex.jb (Ex.ky out x) l
end
def Ex.names (x:Ex):List aD:=if x.may then x.ky []else []
mutual
theorem oh (out:List aD) : ∀ x:Ex,(Ex.ky out x).length≤out.length+x.size
 | ⟨op,n,name,kids⟩=>by
  simp only [Ex.ky,Ex.size]
  have h:=zN (if op==2 && !(dY out name)then out++ [name]else out) kids
  refine Nat.le_trans h ?_
  split <;> simp <;> omega
theorem zN (out:List aD) : ∀ l:List Ex,(Ex.jb out l).length≤out.length+Ex.aO l
 | []=>by simp [Ex.jb,Ex.aO]
 | x::l=>by
  simp only [Ex.jb,Ex.aO]
  have h1:=oh out x
  have h2:=zN (Ex.ky out x) l
  omega
end
def vw (out:List aD) (x:aD):List aD:=if dY out x then out else out++ [x]
def SV (x:aD):List aD→Bool
 | []=>false
 | s::l=>if s==x then true else SV x l
abbrev IC (N:Nat):Prop:=∀ (x:Ex),x.size≤N→∀ out:List aD,out.length+x.size≤1000000000→∀ {s:St} {t:Nat},s.aw[t]? = some (some out.length)→
 aI Try.prog fK [.agg (bx x), .slice (.tok t) 1 (out.map encStr)] s (.slice (.tok t) 1 ((x.ky out).map encStr)) ⟨s.av,s.aw.set t (some (x.ky out).length)⟩
theorem QH {N:Nat} (ih:IC N) {op m:Int} {name:aD} {kids:List Ex} (h:Ex.size ⟨op,m,name,kids⟩≤N+1) {out:List aD} (ho:out.length+Ex.size ⟨op,m,name,kids⟩≤1000000000) :
 aI Try.prog fK [.agg (bx ⟨op,m,name,kids⟩), .slice (.tok 0) 1 (out.map encStr)] ⟨[],[some out.length]⟩ (.slice (.tok 0) 1 ((Ex.ky out ⟨op,m,name,kids⟩).map encStr)) ⟨[],[some (Ex.ky out ⟨op,m,name,kids⟩).length]⟩:=by
 obtain⟨R,hG⟩ : ∃ R,Ex.ky out ⟨op,m,name,kids⟩=R:=⟨_,rfl⟩
 rw [hG]
 simp only [Ex.ky]at hG
 simp only [Ex.size]at h ho
 have hlen:kids.length<1000000000:=by have:=Ex.cH kids;omega
 have hk : ∀ y∈kids,∀ out:List aD,out.length+y.size≤1000000000→∀ {s:St} {t:Nat},s.aw[t]? = some (some out.length)→
  aI Try.prog fK [.agg (bx y), .slice (.tok t) 1 (out.map encStr)] s (.slice (.tok t) 1 ((y.ky out).map encStr)) ⟨s.av,s.aw.set t (some (y.ky out).length)⟩:=fun y hy out ho=>
  ih y (by have:=Ex.bW hy;omega) out ho
 refine aI.go nB rfl fun B Q hB hQ=> ?_
 have⟨hD,hJ,hP,hZ⟩:=b7
 have hP:(out.length+1)*17≤bt:=by unfold bt;omega
 rcases Bool.eq_false_or_eq_true (op==2)with b1 | b1
 ·rcases Bool.eq_false_or_eq_true (dY out name)with b2 | b2
  ·simp only [b1,b2,Bool.not_true,Bool.and_false,Bool.false_eq_true,if_false]at hG
   repeat' (first
 | simp only [go_sem,hD,hJ,hP,hZ,b1,b2]
 | (with_reducible refine CU (gL (l:=out) (by omega) name _ _) ?_)
 | (with_reducible refine aJ hQ ?_;simp only [az,aB,Option.some.injEq,exists_eq_left',go_sem,hD,hJ,hP,hZ];repeat' (first | exact Ok.out | with_reducible refine aR ?_ ?_ | (simp;done))))
   refine dG 1 1 (bq.ind (ι:=List Ex×Nat×List aD×Nat) (fun i=>kids.drop i.2.1=i.1∧Ex.jb i.2.2.1 i.1=R∧i.2.2.1.length+Ex.aO i.1≤1000000000∧i.2.2.2=i.2.2.1.length) (fun i=>i.1.length)
    (fun i=> [(1, .slice (.tok 0) 1 (i.2.2.1.map encStr)),(2, .ptr 0 0),(23, .slice .shared 4 (kids.map bx)),(24, .int .i64 (kids.length:Int)),(25, .int .i64 (i.2.1:Int))]) (fun i=>⟨[bx ⟨op,m,name,kids⟩],[some i.2.2.2]⟩) ?_ (kids,0,out,out.length) ⟨rfl,hG,by simp;omega,by simp⟩)
   rintro⟨rest,k,bD,n'⟩ ⟨h1,h2,h3,h4⟩ IH
   dsimp only at h1 h2 h3 h4
   subst h4
   cases rest with
   | nil=>
    have hD:=drop_nil h1
    simp only [Ex.jb]at h2
    subst h2
    repeat' (first
 | simp only [go_sem,hD,hJ,hP,hZ]
 | (with_reducible refine aJ hQ ?_;simp only [az,aB,Option.some.injEq,exists_eq_left',go_sem,hD,hJ,hP,hZ];repeat' (first | exact Ok.out | with_reducible refine aR ?_ ?_ | (simp;done))))
   | cons y rest=>
    obtain⟨hJ,g2,hD,g4⟩:=drop_cons h1
    have bE:k<4611686018427387904:=by omega
    simp only [Ex.jb]at h2
    simp only [Ex.aO]at h3
    have hy:=fun {s:St} {t:Nat} (ht:s.aw[t]? = some (some bD.length))=>hk y (List.mem_of_getElem? hJ) bD (by omega) ht
    have hl:=oh bD y
    repeat' (first
 | simp only [go_sem,hD,hJ,hP,hZ]
 | (with_reducible refine CU (hy (by with_unfolding_all rfl)) ?_)
 | (with_reducible refine aJ hQ ?_;simp only [az,aB,Option.some.injEq,exists_eq_left',go_sem,hD,hJ,hP,hZ];repeat' (first | exact Ok.out | with_reducible refine aR ?_ ?_ | (simp;done))))
    refine dt 1 1 ?_ ?_ (IH (rest,k+1,_,_) ⟨g2,h2,by dsimp only;omega,rfl⟩ (Nat.lt_succ_self _))
    ·(simp only [go_sem,hD,hJ,hP,hZ,aF bE];try exact br)
    ·(simp only [go_sem,hD,hJ,hP,hZ,aF bE];try exact br)
  ·simp only [b1,b2,Bool.not_false,Bool.and_true,if_true]at hG
   repeat' (first
 | simp only [go_sem,hD,hJ,hP,hZ,b1,b2]
 | (with_reducible refine CU (gL (l:=out) (by omega) name _ _) ?_)
 | (with_reducible refine aJ hQ ?_;simp only [az,aB,Option.some.injEq,exists_eq_left',go_sem,hD,hJ,hP,hZ];repeat' (first | exact Ok.out | with_reducible refine aR ?_ ?_ | (simp;done))))
   refine dt 1 1 ?_ ?_ (bq.ind (ι:=List Ex×Nat×List aD×Nat) (fun i=>kids.drop i.2.1=i.1∧Ex.jb i.2.2.1 i.1=R∧i.2.2.1.length+Ex.aO i.1≤1000000000∧i.2.2.2=i.2.2.1.length) (fun i=>i.1.length)
    (fun i=> [(1, .slice (.tok 0) 1 (i.2.2.1.map encStr)),(2, .ptr 0 0),(23, .slice .shared 4 (kids.map bx)),(24, .int .i64 (kids.length:Int)),(25, .int .i64 (i.2.1:Int))]) (fun i=>⟨[bx ⟨op,m,name,kids⟩],[some i.2.2.2]⟩) ?_ (kids,0,(out++ [name]),(out.length+1)) ⟨rfl,hG,by simp;omega,by simp⟩)
   ·(simp only [go_sem,hD,hJ,hP,hZ,List.map_append,List.map_cons,List.map_nil,List.length_append,List.length_cons,List.length_nil,encStr];try exact br)
   ·(simp only [go_sem,hD,hJ,hP,hZ,List.map_append,List.map_cons,List.map_nil,List.length_append,List.length_cons,List.length_nil,encStr];try exact br)
   rintro⟨rest,k,bD,n'⟩ ⟨h1,h2,h3,h4⟩ IH
   dsimp only at h1 h2 h3 h4
   subst h4
   cases rest with
   | nil=>
    have hD:=drop_nil h1
    simp only [Ex.jb]at h2
    subst h2
    repeat' (first
 | simp only [go_sem,hD,hJ,hP,hZ]
 | (with_reducible refine aJ hQ ?_;simp only [az,aB,Option.some.injEq,exists_eq_left',go_sem,hD,hJ,hP,hZ];repeat' (first | exact Ok.out | with_reducible refine aR ?_ ?_ | (simp;done))))
   | cons y rest=>
    obtain⟨hJ,g2,hD,g4⟩:=drop_cons h1
    have bE:k<4611686018427387904:=by omega
    simp only [Ex.jb]at h2
    simp only [Ex.aO]at h3
    have hy:=fun {s:St} {t:Nat} (ht:s.aw[t]? = some (some bD.length))=>hk y (List.mem_of_getElem? hJ) bD (by omega) ht
    have hl:=oh bD y
    repeat' (first
 | simp only [go_sem,hD,hJ,hP,hZ]
 | (with_reducible refine CU (hy (by with_unfolding_all rfl)) ?_)
 | (with_reducible refine aJ hQ ?_;simp only [az,aB,Option.some.injEq,exists_eq_left',go_sem,hD,hJ,hP,hZ];repeat' (first | exact Ok.out | with_reducible refine aR ?_ ?_ | (simp;done))))
    refine dt 1 1 ?_ ?_ (IH (rest,k+1,_,_) ⟨g2,h2,by dsimp only;omega,rfl⟩ (Nat.lt_succ_self _))
    ·(simp only [go_sem,hD,hJ,hP,hZ,aF bE];try exact br)
    ·(simp only [go_sem,hD,hJ,hP,hZ,aF bE];try exact br)
 ·simp only [b1,Bool.false_and,Bool.false_eq_true,if_false]at hG
  repeat' (first
 | simp only [go_sem,hD,hJ,hP,hZ,b1]
 | (with_reducible refine aJ hQ ?_;simp only [az,aB,Option.some.injEq,exists_eq_left',go_sem,hD,hJ,hP,hZ];repeat' (first | exact Ok.out | with_reducible refine aR ?_ ?_ | (simp;done))))
  refine dG 1 1 (bq.ind (ι:=List Ex×Nat×List aD×Nat) (fun i=>kids.drop i.2.1=i.1∧Ex.jb i.2.2.1 i.1=R∧i.2.2.1.length+Ex.aO i.1≤1000000000∧i.2.2.2=i.2.2.1.length) (fun i=>i.1.length)
   (fun i=> [(1, .slice (.tok 0) 1 (i.2.2.1.map encStr)),(2, .ptr 0 0),(23, .slice .shared 4 (kids.map bx)),(24, .int .i64 (kids.length:Int)),(25, .int .i64 (i.2.1:Int))]) (fun i=>⟨[bx ⟨op,m,name,kids⟩],[some i.2.2.2]⟩) ?_ (kids,0,out,out.length) ⟨rfl,hG,by simp;omega,by simp⟩)
  rintro⟨rest,k,bD,n'⟩ ⟨h1,h2,h3,h4⟩ IH
  dsimp only at h1 h2 h3 h4
  subst h4
  cases rest with
  | nil=>
   have hD:=drop_nil h1
   simp only [Ex.jb]at h2
   subst h2
   repeat' (first
 | simp only [go_sem,hD,hJ,hP,hZ]
 | (with_reducible refine aJ hQ ?_;simp only [az,aB,Option.some.injEq,exists_eq_left',go_sem,hD,hJ,hP,hZ];repeat' (first | exact Ok.out | with_reducible refine aR ?_ ?_ | (simp;done))))
  | cons y rest=>
   obtain⟨hJ,g2,hD,g4⟩:=drop_cons h1
   have bE:k<4611686018427387904:=by omega
   simp only [Ex.jb]at h2
   simp only [Ex.aO]at h3
   have hy:=fun {s:St} {t:Nat} (ht:s.aw[t]? = some (some bD.length))=>hk y (List.mem_of_getElem? hJ) bD (by omega) ht
   have hl:=oh bD y
   repeat' (first
 | simp only [go_sem,hD,hJ,hP,hZ]
 | (with_reducible refine CU (hy (by with_unfolding_all rfl)) ?_)
 | (with_reducible refine aJ hQ ?_;simp only [az,aB,Option.some.injEq,exists_eq_left',go_sem,hD,hJ,hP,hZ];repeat' (first | exact Ok.out | with_reducible refine aR ?_ ?_ | (simp;done))))
   refine dt 1 1 ?_ ?_ (IH (rest,k+1,_,_) ⟨g2,h2,by dsimp only;omega,rfl⟩ (Nat.lt_succ_self _))
   ·(simp only [go_sem,hD,hJ,hP,hZ,aF bE];try exact br)
   ·(simp only [go_sem,hD,hJ,hP,hZ,aF bE];try exact br)
theorem Ll : ∀ N,IC N:=by
 intro N
 induction N with
 | zero=>rintro⟨op,m,name,kids⟩ h;simp only [Ex.size]at h;omega
 | succ N ih=>
  rintro⟨op,m,name,kids⟩ h out ho s t ht
  exact(QH ih h ho).Pw (pre:= [_]) (post:= []) (by simp only [D.bI,D.ok,jg];rfl) rfl (fc out) (fc _) ht
end Go.Abs

/-! Nm2 -/

namespace Go.Abs
set_option maxRecDepth 8000
open Go.Proofs
theorem ID {op m:Int} {name:aD} {kids:List Ex} (h:Ex.form ⟨op,m,name,kids⟩=true) (h2:(op==2)=true):kids = []:=by
 have e:op=2:=by simpa using h2
 subst e
 simp only [Ex.form]at h
 split at h
 ·cases h
 ·rename_i hh
  simp only [Bool.or_eq_true,not_or,bne_iff_ne,ne_eq,Decidable.not_not]at hh
  have:=hh.1.1.1.1
  have e:mh 2=0:=rfl
  rw [e]at this
  exact List.length_eq_zero_iff.1 (by omega)
theorem Lm {op m:Int} {name:aD} {kids:List Ex} (hf:(op==2)=true→kids = []) (ho:Ex.size ⟨op,m,name,kids⟩≤1000000000) (s:St) :
 aI Try.prog fK [.agg (bx ⟨op,m,name,kids⟩), .slice .full 0 []] s (.slice .shared 1 ((Ex.ky [] ⟨op,m,name,kids⟩).map encStr)) s:=by
 refine aI.pure ?_ (by simp only [D.bI,D.ok,jg];rfl) (by simp only [D.ok,Tag.ok,fc];rfl) s
 obtain⟨R,hG⟩ : ∃ R,Ex.ky [] ⟨op,m,name,kids⟩=R:=⟨_,rfl⟩
 rw [hG]
 simp only [Ex.ky]at hG
 simp only [Ex.size]at ho
 have hlen:kids.length<1000000000:=by have:=Ex.cH kids;omega
 have hk : ∀ y∈kids,∀ out:List aD,out.length+y.size≤1000000000→∀ {s:St} {t:Nat},s.aw[t]? = some (some out.length)→
  aI Try.prog fK [.agg (bx y), .slice (.tok t) 1 (out.map encStr)] s (.slice (.tok t) 1 ((y.ky out).map encStr)) ⟨s.av,s.aw.set t (some (y.ky out).length)⟩:=fun y hy out ho=>
  Ll y.size y (Nat.le_refl _) out ho
 unfold S0
 rcases Bool.eq_false_or_eq_true (op==2)with b1 | b1
 ·have QI:=hf b1
  subst QI
  have e:dY [] name=false:=rfl
  simp only [b1,e,Bool.not_false,Bool.and_true,if_true,Ex.jb,List.nil_append]at hG
  subst hG
  refine aI.go nB rfl fun B Q hB hQ=> ?_
  have⟨hD,hJ,hP,hZ⟩:=b7
  have hP:17≤bt:=by unfold bt;omega
  repeat' (first
 | simp only [go_sem,hD,hJ,hP,hZ,b1,List.map_nil,List.map_cons,List.length_nil,encStr,Int.natCast_zero,Int.lt_irrefl,decide_false]
 | (with_reducible refine CU (Cf name _ _ _) ?_)
 | (with_reducible refine bq.AY ?_)
 | (with_reducible refine aJ hQ ?_;simp only [az,aB,Option.some.injEq,exists_eq_left',go_sem,hD,hJ,hP,hZ];repeat' (first | exact Ok.out | with_reducible refine aR ?_ ?_ | (simp;done))))
 ·simp only [b1,Bool.false_and,Bool.false_eq_true,if_false]at hG
  refine aI.go nB rfl fun B Q hB hQ=> ?_
  have⟨hD,hJ,hP,hZ⟩:=b7
  repeat' (first
 | simp only [go_sem,hD,hJ,hP,hZ,b1]
 | (with_reducible refine aJ hQ ?_;simp only [az,aB,Option.some.injEq,exists_eq_left',go_sem,hD,hJ,hP,hZ];repeat' (first | exact Ok.out | with_reducible refine aR ?_ ?_ | (simp;done))))
  refine bq.o8 1 1 rfl ?_
  simp only [go_sem,hD,hJ,hP,hZ]
  refine dG 1 1 (bq.ind (ι:=List Ex×Nat×List aD×Nat) (fun i=>kids.drop i.2.1=i.1∧Ex.jb i.2.2.1 i.1=R∧i.2.2.1.length+Ex.aO i.1≤1000000000∧i.2.2.2=i.2.2.1.length) (fun i=>i.1.length)
   (fun i=> [(1, .slice (.tok 0) 1 (i.2.2.1.map encStr)),(2, .ptr 0 0),(23, .slice .shared 4 (kids.map bx)),(24, .int .i64 (kids.length:Int)),(25, .int .i64 (i.2.1:Int))]) (fun i=>⟨[bx ⟨op,m,name,kids⟩],[some i.2.2.2]⟩) ?_ (kids,0,[],0) ⟨rfl,hG,by simp;omega,by simp⟩)
  rintro⟨rest,k,bD,n'⟩ ⟨h1,h2,h3,h4⟩ IH
  dsimp only at h1 h2 h3 h4
  subst h4
  cases rest with
  | nil=>
   have hD:=drop_nil h1
   simp only [Ex.jb]at h2
   subst h2
   repeat' (first
 | simp only [go_sem,hD,hJ,hP,hZ]
 | (with_reducible refine aJ hQ ?_;simp only [az,aB,Option.some.injEq,exists_eq_left',go_sem,hD,hJ,hP,hZ];repeat' (first | exact Ok.out | with_reducible refine aR ?_ ?_ | (simp;done))))
  | cons y rest=>
   obtain⟨hJ,g2,hD,g4⟩:=drop_cons h1
   have bE:k<4611686018427387904:=by omega
   simp only [Ex.jb]at h2
   simp only [Ex.aO]at h3
   have hy:=fun {s:St} {t:Nat} (ht:s.aw[t]? = some (some bD.length))=>hk y (List.mem_of_getElem? hJ) bD (by omega) ht
   have hl:=oh bD y
   repeat' (first
 | simp only [go_sem,hD,hJ,hP,hZ]
 | (with_reducible refine CU (hy (by with_unfolding_all rfl)) ?_)
 | (with_reducible refine aJ hQ ?_;simp only [az,aB,Option.some.injEq,exists_eq_left',go_sem,hD,hJ,hP,hZ];repeat' (first | exact Ok.out | with_reducible refine aR ?_ ?_ | (simp;done))))
   refine dt 1 1 ?_ ?_ (IH (rest,k+1,_,_) ⟨g2,h2,by dsimp only;omega,rfl⟩ (Nat.lt_succ_self _))
   ·(simp only [go_sem,hD,hJ,hP,hZ,aF bE];try exact br)
   ·(simp only [go_sem,hD,hJ,hP,hZ,aF bE];try exact br)
theorem j9 {x:Ex} (hx:x.size≤1000000000) (ht:x.texts) (s:St):aI Try.prog np [.agg (bx x)] s (.slice .shared 1 (x.names.map encStr)) s:=by
 refine aI.pure ?_ (by simp only [D.bI,D.ok,jg];rfl) (by simp only [D.ok,Tag.ok,fc];rfl) s
 have hm:=fun s=>xJ (x:=x) (by omega) ht s
 simp only [IB]at hm
 unfold Ex.names
 unfold S0
 cases hb:x.may
 ·simp only [hb]at hm
  simp only [Bool.false_eq_true,if_false,List.map_nil]
  refine aI.go sj rfl fun B Q hB hQ=> ?_
  have⟨hD,hJ,hP,hZ⟩:=b7
  repeat' (first
 | simp only [go_sem,hD,hJ,hP,hZ]
 | (with_reducible refine CU (hm _) ?_)
 | (with_reducible refine aJ hQ ?_;simp only [az,aB,Option.some.injEq,exists_eq_left',go_sem,hD,hJ,hP,hZ];repeat' (first | exact Ok.out | with_reducible refine aR ?_ ?_ | (simp;done))))
 ·simp only [hb]at hm
  simp only [if_true]
  have hg : ∀ s,aI Try.prog fK [.agg (bx x), .slice .full 0 []] s (.slice .shared 1 ((x.ky []).map encStr)) s:=by
   intro s
   obtain⟨op,m,name,kids⟩:=x
   exact Lm (fun h2=>ID (by simp only [Ex.may,Bool.and_eq_true]at hb;exact hb.2) h2) hx s
  refine aI.go sj rfl fun B Q hB hQ=> ?_
  have⟨hD,hJ,hP,hZ⟩:=b7
  repeat' (first
 | simp only [go_sem,hD,hJ,hP,hZ]
 | (with_reducible refine CU (hm _) ?_)
 | (with_reducible refine CU (hg _) ?_)
 | (with_reducible refine aJ hQ ?_;simp only [az,aB,Option.some.injEq,exists_eq_left',go_sem,hD,hJ,hP,hZ];repeat' (first | exact Ok.out | with_reducible refine aR ?_ ?_ | (simp;done))))
end Go.Abs

/-! Nm3 -/

namespace Go.Abs
set_option maxRecDepth 8000
open Go.Proofs
def Ar.said (out:List aD):List Ar→List aD
 | []=>out
 | a::l=>Ar.said ((if a.ref then out++ [a.name]else out)++a.x.names) l
def Sm.nC (v:Sm):List aD:=if v.kind != 10 && v.name != []then [v.name]else []
def Sm.said (v:Sm):List aD:=Ar.said (v.nC++v.x.names) v.args
theorem iG (x:Ex):x.names.length≤x.size:=by
 unfold Ex.names
 split
 ·simpa using oh [] x
 ·exact Nat.zero_le _
def Ar.qk:List Ar→Prop
 | []=>True
 | a::l=>a.x.texts∧Ar.qk l
def Sm.kP (v:Sm):Prop:=v.x.texts∧(∀ a∈v.args,a.x.texts)∧v.x.size+Ar.aO v.args<1000000
theorem ib {l nx:List aD} {n:Nat} (hn:n=l.length) (h:l.length+nx.length≤1000000000) {g:Tag} (o:List (List D)) :
 jC 1 16 (.slice (.tok 0) 1 (l.map encStr)) (.slice g 1 (nx.map encStr)) ⟨o,[some n]⟩=some (.slice (.tok 0) 1 ((l++nx).map encStr),⟨o,[some (l++nx).length]⟩):=by
 subst hn
 have:=BV (size:=1) (bytes:=16) (t:=0) (rows:=l.map encStr) (new:=nx.map encStr) (g:=g) (s:=⟨o,[some l.length]⟩) (by simp only [List.length_map];unfold bt;omega) (by simp)
 rw [this]
 simp
theorem uR {v:Sm} (hv:v.kP) (s:St):aI Try.prog ni [.agg (a7 v)] s (.slice .shared 1 (v.said.map encStr)) s:=by
 refine aI.pure ?_ (by simp only [D.bI,D.ok,kq];rfl) (by simp only [D.ok,Tag.ok,fc];rfl) s
 obtain⟨ht1,IE,dC⟩:=hv
 obtain⟨R,hG⟩ : ∃ R,v.said=R:=⟨_,rfl⟩
 rw [hG]
 simp only [Sm.said]at hG
 have hlen:v.args.length<1000000000:=by have:=Ar.cH v.args;omega
 have hx:=fun s=>j9 (x:=v.x) (by omega) ht1 s
 have DZ:=iG v.x
 unfold S0
 refine aI.go yH rfl fun B Q hB hQ=> ?_
 have⟨hD,hJ,hP,hZ⟩:=b7
 have hP:17≤bt:=by unfold bt;omega
 by_cases hb:(v.kind != 10 && v.name != [])=true
 ·simp only [Sm.nC,hb,if_true]at hG
  rw [Bool.and_eq_true]at hb
  obtain⟨b1,b2⟩:=hb
  have eU:=ib (l:= [v.name]) (nx:=v.x.names) (n:=1) rfl (by simp;omega) (g:= .shared)
  simp only [List.map_append,List.map_cons,List.map_nil,encStr]at eU
  have b3:(v.name == [])=false:=by simpa using b2
  repeat' (first
 | simp only [go_sem,hD,hJ,hP,hZ,b1,b2,b3,eU]
 | (with_reducible refine CU (hx _) ?_)
 | (with_reducible refine aJ hQ ?_;simp only [az,aB,Option.some.injEq,exists_eq_left',go_sem,hD,hJ,hP,hZ];repeat' (first | exact Ok.out | with_reducible refine aR ?_ ?_ | (simp;done))))
  refine dt 1 1 ?_ ?_ (bq.ind (ι:=List Ar×Nat×List aD×Nat) (fun i=>v.args.drop i.2.1=i.1∧Ar.said i.2.2.1 i.1=R∧i.2.2.1.length+Ar.aO i.1≤2000000∧i.2.2.2=i.2.2.1.length) (fun i=>i.1.length)
   (fun i=> [(3, .slice (.tok 0) 1 (i.2.2.1.map encStr)),(1, .ptr 0 0),(25, .slice .shared 6 (v.args.map dh)),(26, .int .i64 (v.args.length:Int)),(27, .int .i64 (i.2.1:Int))]) (fun i=>⟨[a7 v],[some i.2.2.2]⟩) ?_ (v.args,0,([v.name]++v.x.names),(v.x.names.length+1)) ⟨rfl,hG,by simp at DZ ⊢;omega,by simp⟩)
  ·(simp only [go_sem,hD,hJ,hP,hZ,List.map_append,List.map_cons,List.map_nil,encStr];try exact br)
  ·(simp only [go_sem,hD,hJ,hP,hZ,List.map_append,List.map_cons,List.map_nil,encStr];try exact br)
  rintro⟨rest,k,out,n'⟩ ⟨h1,h2,h3,h4⟩ IH
  dsimp only at h1 h2 h3 h4
  subst h4
  cases rest with
  | nil=>
   have hD:=drop_nil h1
   simp only [Ar.said]at h2
   subst h2
   repeat' (first
 | simp only [go_sem,hD,hJ,hP,hZ]
 | (with_reducible refine aJ hQ ?_;simp only [az,aB,Option.some.injEq,exists_eq_left',go_sem,hD,hJ,hP,hZ];repeat' (first | exact Ok.out | with_reducible refine aR ?_ ?_ | (simp;done))))
  | cons a rest=>
   obtain⟨hJ,g2,hD,g4⟩:=drop_cons h1
   have bE:k<4611686018427387904:=by omega
   simp only [Ar.said]at h2
   simp only [Ar.aO]at h3
   have qY:=fun s=>j9 (x:=a.x) (by have:=Ar.bW (List.mem_of_getElem? hJ);omega) (IE a (List.mem_of_getElem? hJ)) s
   have hl:=iG a.x
   have hP:(out.length+1)*17≤bt:=by unfold bt;omega
   rcases Bool.eq_false_or_eq_true a.ref with b1 | b1
   ·simp only [b1,if_true]at h2
    have eU:=ib (l:=out++ [a.name]) (nx:=a.x.names) (n:=out.length+1) (by simp) (by simp;omega) (g:= .shared)
    simp only [List.map_append,List.map_cons,List.map_nil,encStr]at eU
    repeat' (first
 | simp only [go_sem,hD,hJ,hP,hZ,b1,eU]
 | (with_reducible refine CU (qY _) ?_)
 | (with_reducible refine aJ hQ ?_;simp only [az,aB,Option.some.injEq,exists_eq_left',go_sem,hD,hJ,hP,hZ];repeat' (first | exact Ok.out | with_reducible refine aR ?_ ?_ | (simp;done))))
    refine dt 1 1 ?_ ?_ (IH (rest,k+1,out++ [a.name]++a.x.names,_) ⟨g2,h2,by simp;omega,by simp <;> omega⟩ (Nat.lt_succ_self _))
    ·(simp only [go_sem,hD,hJ,hP,hZ,aF bE,List.map_append,List.map_cons,List.map_nil,encStr];try exact br)
    ·(simp only [go_sem,hD,hJ,hP,hZ,aF bE,List.map_append,List.map_cons,List.map_nil,encStr];try exact br)
   ·simp only [b1,Bool.false_eq_true,if_false]at h2
    have eU:=ib (l:=out) (nx:=a.x.names) rfl (by omega) (g:= .shared)
    repeat' (first
 | simp only [go_sem,hD,hJ,hP,hZ,b1,eU]
 | (with_reducible refine CU (qY _) ?_)
 | (with_reducible refine aJ hQ ?_;simp only [az,aB,Option.some.injEq,exists_eq_left',go_sem,hD,hJ,hP,hZ];repeat' (first | exact Ok.out | with_reducible refine aR ?_ ?_ | (simp;done))))
    refine dt 1 1 ?_ ?_ (IH (rest,k+1,out++a.x.names,_) ⟨g2,h2,by simp;omega,by simp <;> omega⟩ (Nat.lt_succ_self _))
    ·(simp only [go_sem,hD,hJ,hP,hZ,aF bE];try exact br)
    ·(simp only [go_sem,hD,hJ,hP,hZ,aF bE];try exact br)
 ·simp only [Sm.nC,hb,Bool.false_eq_true,if_false,List.nil_append]at hG
  have qJ:(v.kind != 10 && v.name != [])=false:=by simpa using hb
  obtain⟨nx,TU⟩ : ∃ nx,nx=v.x.names:=⟨_,rfl⟩
  rw [← TU]at hG DZ
  simp only [← TU]at hx
  by_cases Bp:nx = []
  ·subst Bp
   simp only [List.map_nil]at hx
   have eU : ∀ o:List (List D),jC 1 16 (.slice .full 0 []) (.slice .shared 1 []) ⟨o,[]⟩=some (.slice .full 0 [],⟨o,[]⟩):=fun o=>by simp [jC,bt]
   have HB:(v.kind != 10)=false∨(v.kind != 10)=true∧(v.name != [])=false:=by
    cases h1:(v.kind != 10)
    ·exact .inl rfl
    ·rw [h1]at qJ;exact .inr ⟨rfl,by simpa using qJ⟩
   rcases HB with b1 | ⟨b1,b2⟩
   ·rcases Bool.eq_false_or_eq_true (v.name != [])with b2 | b2
    all_goals
     have b3:(v.name == []) = !(v.name != []):=by simp only [bne,Bool.not_not]
     rw [b2]at b3
     repeat' (first
 | simp only [go_sem,hD,hJ,hP,hZ,b1,b2,b3,Bool.not_true,Bool.not_false,eU]
 | (with_reducible refine CU (hx _) ?_)
 | (with_reducible refine aJ hQ ?_;simp only [az,aB,Option.some.injEq,exists_eq_left',go_sem,hD,hJ,hP,hZ];repeat' (first | exact Ok.out | with_reducible refine aR ?_ ?_ | (simp;done))))
    all_goals
     refine bq.o8 3 1 rfl ?_
     simp only [go_sem,hD,hJ,hP,hZ]
     refine dG 1 1 (bq.ind (ι:=List Ar×Nat×List aD×Nat) (fun i=>v.args.drop i.2.1=i.1∧Ar.said i.2.2.1 i.1=R∧i.2.2.1.length+Ar.aO i.1≤2000000∧i.2.2.2=i.2.2.1.length) (fun i=>i.1.length)
      (fun i=> [(3, .slice (.tok 0) 1 (i.2.2.1.map encStr)),(1, .ptr 0 0),(25, .slice .shared 6 (v.args.map dh)),(26, .int .i64 (v.args.length:Int)),(27, .int .i64 (i.2.1:Int))]) (fun i=>⟨[a7 v],[some i.2.2.2]⟩) ?_ (v.args,0,[],0) ⟨rfl,hG,by simp at DZ ⊢;omega,by simp⟩)
     rintro⟨rest,k,out,n'⟩ ⟨h1,h2,h3,h4⟩ IH
     dsimp only at h1 h2 h3 h4
     subst h4
     cases rest with
     | nil=>
      have hD:=drop_nil h1
      simp only [Ar.said]at h2
      subst h2
      repeat' (first
 | simp only [go_sem,hD,hJ,hP,hZ]
 | (with_reducible refine aJ hQ ?_;simp only [az,aB,Option.some.injEq,exists_eq_left',go_sem,hD,hJ,hP,hZ];repeat' (first | exact Ok.out | with_reducible refine aR ?_ ?_ | (simp;done))))
     | cons a rest=>
      obtain⟨hJ,g2,hD,g4⟩:=drop_cons h1
      have bE:k<4611686018427387904:=by omega
      simp only [Ar.said]at h2
      simp only [Ar.aO]at h3
      have qY:=fun s=>j9 (x:=a.x) (by have:=Ar.bW (List.mem_of_getElem? hJ);omega) (IE a (List.mem_of_getElem? hJ)) s
      have hl:=iG a.x
      have hP:(out.length+1)*17≤bt:=by unfold bt;omega
      rcases Bool.eq_false_or_eq_true a.ref with b1 | b1
      ·simp only [b1,if_true]at h2
       have eU:=ib (l:=out++ [a.name]) (nx:=a.x.names) (n:=out.length+1) (by simp) (by simp;omega) (g:= .shared)
       simp only [List.map_append,List.map_cons,List.map_nil,encStr]at eU
       repeat' (first
 | simp only [go_sem,hD,hJ,hP,hZ,b1,eU]
 | (with_reducible refine CU (qY _) ?_)
 | (with_reducible refine aJ hQ ?_;simp only [az,aB,Option.some.injEq,exists_eq_left',go_sem,hD,hJ,hP,hZ];repeat' (first | exact Ok.out | with_reducible refine aR ?_ ?_ | (simp;done))))
       refine dt 1 1 ?_ ?_ (IH (rest,k+1,out++ [a.name]++a.x.names,_) ⟨g2,h2,by simp;omega,by simp <;> omega⟩ (Nat.lt_succ_self _))
       ·(simp only [go_sem,hD,hJ,hP,hZ,aF bE,List.map_append,List.map_cons,List.map_nil,encStr];try exact br)
       ·(simp only [go_sem,hD,hJ,hP,hZ,aF bE,List.map_append,List.map_cons,List.map_nil,encStr];try exact br)
      ·simp only [b1,Bool.false_eq_true,if_false]at h2
       have eU:=ib (l:=out) (nx:=a.x.names) rfl (by omega) (g:= .shared)
       repeat' (first
 | simp only [go_sem,hD,hJ,hP,hZ,b1,eU]
 | (with_reducible refine CU (qY _) ?_)
 | (with_reducible refine aJ hQ ?_;simp only [az,aB,Option.some.injEq,exists_eq_left',go_sem,hD,hJ,hP,hZ];repeat' (first | exact Ok.out | with_reducible refine aR ?_ ?_ | (simp;done))))
       refine dt 1 1 ?_ ?_ (IH (rest,k+1,out++a.x.names,_) ⟨g2,h2,by simp;omega,by simp <;> omega⟩ (Nat.lt_succ_self _))
       ·(simp only [go_sem,hD,hJ,hP,hZ,aF bE];try exact br)
       ·(simp only [go_sem,hD,hJ,hP,hZ,aF bE];try exact br)
   ·have b3:(v.name == [])=true:=by simpa using b2
    repeat' (first
 | simp only [go_sem,hD,hJ,hP,hZ,b1,b2,b3,eU]
 | (with_reducible refine CU (hx _) ?_)
 | (with_reducible refine aJ hQ ?_;simp only [az,aB,Option.some.injEq,exists_eq_left',go_sem,hD,hJ,hP,hZ];repeat' (first | exact Ok.out | with_reducible refine aR ?_ ?_ | (simp;done))))
    refine bq.o8 3 1 rfl ?_
    simp only [go_sem,hD,hJ,hP,hZ]
    refine dG 1 1 (bq.ind (ι:=List Ar×Nat×List aD×Nat) (fun i=>v.args.drop i.2.1=i.1∧Ar.said i.2.2.1 i.1=R∧i.2.2.1.length+Ar.aO i.1≤2000000∧i.2.2.2=i.2.2.1.length) (fun i=>i.1.length)
     (fun i=> [(3, .slice (.tok 0) 1 (i.2.2.1.map encStr)),(1, .ptr 0 0),(25, .slice .shared 6 (v.args.map dh)),(26, .int .i64 (v.args.length:Int)),(27, .int .i64 (i.2.1:Int))]) (fun i=>⟨[a7 v],[some i.2.2.2]⟩) ?_ (v.args,0,[],0) ⟨rfl,hG,by simp at DZ ⊢;omega,by simp⟩)
    rintro⟨rest,k,out,n'⟩ ⟨h1,h2,h3,h4⟩ IH
    dsimp only at h1 h2 h3 h4
    subst h4
    cases rest with
    | nil=>
     have hD:=drop_nil h1
     simp only [Ar.said]at h2
     subst h2
     repeat' (first
 | simp only [go_sem,hD,hJ,hP,hZ]
 | (with_reducible refine aJ hQ ?_;simp only [az,aB,Option.some.injEq,exists_eq_left',go_sem,hD,hJ,hP,hZ];repeat' (first | exact Ok.out | with_reducible refine aR ?_ ?_ | (simp;done))))
    | cons a rest=>
     obtain⟨hJ,g2,hD,g4⟩:=drop_cons h1
     have bE:k<4611686018427387904:=by omega
     simp only [Ar.said]at h2
     simp only [Ar.aO]at h3
     have qY:=fun s=>j9 (x:=a.x) (by have:=Ar.bW (List.mem_of_getElem? hJ);omega) (IE a (List.mem_of_getElem? hJ)) s
     have hl:=iG a.x
     have hP:(out.length+1)*17≤bt:=by unfold bt;omega
     rcases Bool.eq_false_or_eq_true a.ref with b1 | b1
     ·simp only [b1,if_true]at h2
      have eU:=ib (l:=out++ [a.name]) (nx:=a.x.names) (n:=out.length+1) (by simp) (by simp;omega) (g:= .shared)
      simp only [List.map_append,List.map_cons,List.map_nil,encStr]at eU
      repeat' (first
 | simp only [go_sem,hD,hJ,hP,hZ,b1,eU]
 | (with_reducible refine CU (qY _) ?_)
 | (with_reducible refine aJ hQ ?_;simp only [az,aB,Option.some.injEq,exists_eq_left',go_sem,hD,hJ,hP,hZ];repeat' (first | exact Ok.out | with_reducible refine aR ?_ ?_ | (simp;done))))
      refine dt 1 1 ?_ ?_ (IH (rest,k+1,out++ [a.name]++a.x.names,_) ⟨g2,h2,by simp;omega,by simp <;> omega⟩ (Nat.lt_succ_self _))
      ·(simp only [go_sem,hD,hJ,hP,hZ,aF bE,List.map_append,List.map_cons,List.map_nil,encStr];try exact br)
      ·(simp only [go_sem,hD,hJ,hP,hZ,aF bE,List.map_append,List.map_cons,List.map_nil,encStr];try exact br)
     ·simp only [b1,Bool.false_eq_true,if_false]at h2
      have eU:=ib (l:=out) (nx:=a.x.names) rfl (by omega) (g:= .shared)
      repeat' (first
 | simp only [go_sem,hD,hJ,hP,hZ,b1,eU]
 | (with_reducible refine CU (qY _) ?_)
 | (with_reducible refine aJ hQ ?_;simp only [az,aB,Option.some.injEq,exists_eq_left',go_sem,hD,hJ,hP,hZ];repeat' (first | exact Ok.out | with_reducible refine aR ?_ ?_ | (simp;done))))
      refine dt 1 1 ?_ ?_ (IH (rest,k+1,out++a.x.names,_) ⟨g2,h2,by simp;omega,by simp <;> omega⟩ (Nat.lt_succ_self _))
      ·(simp only [go_sem,hD,hJ,hP,hZ,aF bE];try exact br)
      ·(simp only [go_sem,hD,hJ,hP,hZ,aF bE];try exact br)
  ·have eU : ∀ o:List (List D),jC 1 16 (.slice .full 0 []) (.slice .shared 1 (nx.map encStr)) ⟨o,[]⟩=some (.slice (.tok 0) 1 (nx.map encStr),⟨o,[some nx.length]⟩):=fun o=>by
    have:nx.length*17≤bt:=by unfold bt;omega
    cases nx with
    | nil=>exact absurd rfl Bp
    | cons a r=>simp only [List.length_cons]at this;simp [jC,this]
   have HB:(v.kind != 10)=false∨(v.kind != 10)=true∧(v.name != [])=false:=by
    cases h1:(v.kind != 10)
    ·exact .inl rfl
    ·rw [h1]at qJ;exact .inr ⟨rfl,by simpa using qJ⟩
   rcases HB with b1 | ⟨b1,b2⟩
   ·rcases Bool.eq_false_or_eq_true (v.name != [])with b2 | b2
    all_goals
     have b3:(v.name == []) = !(v.name != []):=by simp only [bne,Bool.not_not]
     rw [b2]at b3
     repeat' (first
 | simp only [go_sem,hD,hJ,hP,hZ,b1,b2,b3,Bool.not_true,Bool.not_false,eU]
 | (with_reducible refine CU (hx _) ?_)
 | (with_reducible refine aJ hQ ?_;simp only [az,aB,Option.some.injEq,exists_eq_left',go_sem,hD,hJ,hP,hZ];repeat' (first | exact Ok.out | with_reducible refine aR ?_ ?_ | (simp;done))))
    all_goals
     refine dG 1 1 (bq.ind (ι:=List Ar×Nat×List aD×Nat) (fun i=>v.args.drop i.2.1=i.1∧Ar.said i.2.2.1 i.1=R∧i.2.2.1.length+Ar.aO i.1≤2000000∧i.2.2.2=i.2.2.1.length) (fun i=>i.1.length)
      (fun i=> [(3, .slice (.tok 0) 1 (i.2.2.1.map encStr)),(1, .ptr 0 0),(25, .slice .shared 6 (v.args.map dh)),(26, .int .i64 (v.args.length:Int)),(27, .int .i64 (i.2.1:Int))]) (fun i=>⟨[a7 v],[some i.2.2.2]⟩) ?_ (v.args,0,nx,_) ⟨rfl,hG,by simp at DZ ⊢;omega,by simp⟩)
     rintro⟨rest,k,out,n'⟩ ⟨h1,h2,h3,h4⟩ IH
     dsimp only at h1 h2 h3 h4
     subst h4
     cases rest with
     | nil=>
      have hD:=drop_nil h1
      simp only [Ar.said]at h2
      subst h2
      repeat' (first
 | simp only [go_sem,hD,hJ,hP,hZ]
 | (with_reducible refine aJ hQ ?_;simp only [az,aB,Option.some.injEq,exists_eq_left',go_sem,hD,hJ,hP,hZ];repeat' (first | exact Ok.out | with_reducible refine aR ?_ ?_ | (simp;done))))
     | cons a rest=>
      obtain⟨hJ,g2,hD,g4⟩:=drop_cons h1
      have bE:k<4611686018427387904:=by omega
      simp only [Ar.said]at h2
      simp only [Ar.aO]at h3
      have qY:=fun s=>j9 (x:=a.x) (by have:=Ar.bW (List.mem_of_getElem? hJ);omega) (IE a (List.mem_of_getElem? hJ)) s
      have hl:=iG a.x
      have hP:(out.length+1)*17≤bt:=by unfold bt;omega
      rcases Bool.eq_false_or_eq_true a.ref with b1 | b1
      ·simp only [b1,if_true]at h2
       have eU:=ib (l:=out++ [a.name]) (nx:=a.x.names) (n:=out.length+1) (by simp) (by simp;omega) (g:= .shared)
       simp only [List.map_append,List.map_cons,List.map_nil,encStr]at eU
       repeat' (first
 | simp only [go_sem,hD,hJ,hP,hZ,b1,eU]
 | (with_reducible refine CU (qY _) ?_)
 | (with_reducible refine aJ hQ ?_;simp only [az,aB,Option.some.injEq,exists_eq_left',go_sem,hD,hJ,hP,hZ];repeat' (first | exact Ok.out | with_reducible refine aR ?_ ?_ | (simp;done))))
       refine dt 1 1 ?_ ?_ (IH (rest,k+1,out++ [a.name]++a.x.names,_) ⟨g2,h2,by simp;omega,by simp <;> omega⟩ (Nat.lt_succ_self _))
       ·(simp only [go_sem,hD,hJ,hP,hZ,aF bE,List.map_append,List.map_cons,List.map_nil,encStr];try exact br)
       ·(simp only [go_sem,hD,hJ,hP,hZ,aF bE,List.map_append,List.map_cons,List.map_nil,encStr];try exact br)
      ·simp only [b1,Bool.false_eq_true,if_false]at h2
       have eU:=ib (l:=out) (nx:=a.x.names) rfl (by omega) (g:= .shared)
       repeat' (first
 | simp only [go_sem,hD,hJ,hP,hZ,b1,eU]
 | (with_reducible refine CU (qY _) ?_)
 | (with_reducible refine aJ hQ ?_;simp only [az,aB,Option.some.injEq,exists_eq_left',go_sem,hD,hJ,hP,hZ];repeat' (first | exact Ok.out | with_reducible refine aR ?_ ?_ | (simp;done))))
       refine dt 1 1 ?_ ?_ (IH (rest,k+1,out++a.x.names,_) ⟨g2,h2,by simp;omega,by simp <;> omega⟩ (Nat.lt_succ_self _))
       ·(simp only [go_sem,hD,hJ,hP,hZ,aF bE];try exact br)
       ·(simp only [go_sem,hD,hJ,hP,hZ,aF bE];try exact br)
   ·have b3:(v.name == [])=true:=by simpa using b2
    repeat' (first
 | simp only [go_sem,hD,hJ,hP,hZ,b1,b2,b3,eU]
 | (with_reducible refine CU (hx _) ?_)
 | (with_reducible refine aJ hQ ?_;simp only [az,aB,Option.some.injEq,exists_eq_left',go_sem,hD,hJ,hP,hZ];repeat' (first | exact Ok.out | with_reducible refine aR ?_ ?_ | (simp;done))))
    refine dG 1 1 (bq.ind (ι:=List Ar×Nat×List aD×Nat) (fun i=>v.args.drop i.2.1=i.1∧Ar.said i.2.2.1 i.1=R∧i.2.2.1.length+Ar.aO i.1≤2000000∧i.2.2.2=i.2.2.1.length) (fun i=>i.1.length)
     (fun i=> [(3, .slice (.tok 0) 1 (i.2.2.1.map encStr)),(1, .ptr 0 0),(25, .slice .shared 6 (v.args.map dh)),(26, .int .i64 (v.args.length:Int)),(27, .int .i64 (i.2.1:Int))]) (fun i=>⟨[a7 v],[some i.2.2.2]⟩) ?_ (v.args,0,nx,_) ⟨rfl,hG,by simp at DZ ⊢;omega,by simp⟩)
    rintro⟨rest,k,out,n'⟩ ⟨h1,h2,h3,h4⟩ IH
    dsimp only at h1 h2 h3 h4
    subst h4
    cases rest with
    | nil=>
     have hD:=drop_nil h1
     simp only [Ar.said]at h2
     subst h2
     repeat' (first
 | simp only [go_sem,hD,hJ,hP,hZ]
 | (with_reducible refine aJ hQ ?_;simp only [az,aB,Option.some.injEq,exists_eq_left',go_sem,hD,hJ,hP,hZ];repeat' (first | exact Ok.out | with_reducible refine aR ?_ ?_ | (simp;done))))
    | cons a rest=>
     obtain⟨hJ,g2,hD,g4⟩:=drop_cons h1
     have bE:k<4611686018427387904:=by omega
     simp only [Ar.said]at h2
     simp only [Ar.aO]at h3
     have qY:=fun s=>j9 (x:=a.x) (by have:=Ar.bW (List.mem_of_getElem? hJ);omega) (IE a (List.mem_of_getElem? hJ)) s
     have hl:=iG a.x
     have hP:(out.length+1)*17≤bt:=by unfold bt;omega
     rcases Bool.eq_false_or_eq_true a.ref with b1 | b1
     ·simp only [b1,if_true]at h2
      have eU:=ib (l:=out++ [a.name]) (nx:=a.x.names) (n:=out.length+1) (by simp) (by simp;omega) (g:= .shared)
      simp only [List.map_append,List.map_cons,List.map_nil,encStr]at eU
      repeat' (first
 | simp only [go_sem,hD,hJ,hP,hZ,b1,eU]
 | (with_reducible refine CU (qY _) ?_)
 | (with_reducible refine aJ hQ ?_;simp only [az,aB,Option.some.injEq,exists_eq_left',go_sem,hD,hJ,hP,hZ];repeat' (first | exact Ok.out | with_reducible refine aR ?_ ?_ | (simp;done))))
      refine dt 1 1 ?_ ?_ (IH (rest,k+1,out++ [a.name]++a.x.names,_) ⟨g2,h2,by simp;omega,by simp <;> omega⟩ (Nat.lt_succ_self _))
      ·(simp only [go_sem,hD,hJ,hP,hZ,aF bE,List.map_append,List.map_cons,List.map_nil,encStr];try exact br)
      ·(simp only [go_sem,hD,hJ,hP,hZ,aF bE,List.map_append,List.map_cons,List.map_nil,encStr];try exact br)
     ·simp only [b1,Bool.false_eq_true,if_false]at h2
      have eU:=ib (l:=out) (nx:=a.x.names) rfl (by omega) (g:= .shared)
      repeat' (first
 | simp only [go_sem,hD,hJ,hP,hZ,b1,eU]
 | (with_reducible refine CU (qY _) ?_)
 | (with_reducible refine aJ hQ ?_;simp only [az,aB,Option.some.injEq,exists_eq_left',go_sem,hD,hJ,hP,hZ];repeat' (first | exact Ok.out | with_reducible refine aR ?_ ?_ | (simp;done))))
      refine dt 1 1 ?_ ?_ (IH (rest,k+1,out++a.x.names,_) ⟨g2,h2,by simp;omega,by simp <;> omega⟩ (Nat.lt_succ_self _))
      ·(simp only [go_sem,hD,hJ,hP,hZ,aF bE];try exact br)
      ·(simp only [go_sem,hD,hJ,hP,hZ,aF bE];try exact br)
end Go.Abs

/-! MayEq2 -/

namespace Go.Abs
theorem iz : ∀ (a b:List It) (n:Nat),It.dN n (a++b)=(It.dN n a && It.dN (n+a.length) b)
 | [],b,n=>by simp [It.dN]
 | i::a,b,n=>by
  simp only [List.cons_append,It.dN,iz a b (n+1),List.length_cons]
  have:n+1+a.length=n+(a.length+1):=by omega
  rw [this]
  split <;> simp
theorem xR (n:Nat) (i:It):It.dN n [i] = true↔i.s.id=((n+1:Nat):Int)∧i.deep≤12∧i.s.one=true:=by
 simp only [It.dN]
 split
 ·rename_i h
  simp only [Bool.or_eq_true,bne_iff_ne,ne_eq,decide_eq_true_eq,Bool.not_eq_true']at h
  refine⟨fun h=>(Bool.false_ne_true h).elim,fun⟨h1,h2,h3⟩=> ?_⟩
  rcases h with (h | h) | h
  ·exact(h h1).elim
  ·omega
  ·rw [h]at h3;cases h3
 ·rename_i h
  simp only [Bool.or_eq_true,bne_iff_ne,ne_eq,decide_eq_true_eq,Bool.not_eq_true',not_or,Decidable.not_not,Bool.not_eq_false]at h
  exact⟨fun _=>⟨h.1.1,by omega,h.2⟩,fun _=>rfl⟩
mutual
theorem uS (deep bC:Int) (aM:Bool) : ∀ (s:Sm) (out:List It),∃ new,fk deep bC aM out s=out++(⟨s,deep,bC,aM⟩::new)
 | ⟨id,kind,labels,name,proc,x,has,args,aY,e⟩,out=>by
  simp only [fk]
  split
  ·obtain⟨n1,h1⟩:=mP (deep+1) id false aY (out++ [⟨⟨id,kind,labels,name,proc,x,has,args,aY,e⟩,deep,bC,aM⟩])
   obtain⟨n2,h2⟩:=mP (deep+1) id true e (cB (deep+1) id false (out++ [⟨⟨id,kind,labels,name,proc,x,has,args,aY,e⟩,deep,bC,aM⟩]) aY)
   rw [h2,h1]
   exact⟨n1++n2,by simp⟩
  ·exact⟨[],rfl⟩
theorem mP (deep bC:Int) (aM:Bool) : ∀ (l:List Sm) (out:List It),∃ new,cB deep bC aM out l=out++new
 | [],out=>⟨[],by simp [cB]⟩
 | s::l,out=>by
  simp only [cB]
  split
  ·obtain⟨n1,h1⟩:=uS deep bC aM s out
   obtain⟨n2,h2⟩:=mP deep bC aM l (fk deep bC aM out s)
   rw [h2,h1]
   exact⟨⟨s,deep,bC,aM⟩::n1++n2,by simp⟩
  ·exact⟨[],by simp⟩
end
theorem zO {nest:Int} {n:Nat} {s:Sm} (h:(Sm.l8 nest n s).1=true) :
 n+1≤200∧s.id=((n+1:Nat):Int)∧s.one=true∧(Sm.eY (nest+1) (n+1) s.aY).1=true∧(Sm.eY (nest+1) (Sm.eY (nest+1) (n+1) s.aY).2 s.aM).1=true∧
 (Sm.l8 nest n s).2=(Sm.eY (nest+1) (Sm.eY (nest+1) (n+1) s.aY).2 s.aM).2:=by
 rw [yT]at h ⊢
 split at h
 ·cases h
 rename_i h1
 simp only [Bool.or_eq_true,bne_iff_ne,ne_eq,decide_eq_true_eq,Bool.not_eq_true',not_or,Decidable.not_not,Bool.not_eq_false]at h1
 split at h
 ·cases h
 rename_i h2
 have sd:(Sm.eY (nest+1) (n+1) s.aY).1=true:=by simpa using h2
 refine⟨by omega,h1.1.1.2, ?_,sd,h, ?_⟩
 ·rw [xQ,h1.1.2,h1.2];rfl
 ·rw [if_neg (by simp only [Bool.or_eq_true,bne_iff_ne,ne_eq,decide_eq_true_eq,Bool.not_eq_true',not_or,Decidable.not_not,Bool.not_eq_false];exact h1),if_neg h2]
theorem oV {nest:Int} {n:Nat} {l:List Sm} (h:(Sm.eY nest n l).1=true):(l = []∨nest≤12)∧Sm.eY nest n l=Sm.dF nest n l:=by
 unfold Sm.eY gate at *
 split at h
 ·cases h
 ·rename_i hc
  rw [if_neg hc]
  refine⟨?_,rfl⟩
  simp only [Bool.and_eq_true,decide_eq_true_eq,not_and]at hc
  cases l with
  | nil=>exact .inl rfl
  | cons s l=>right;simp only [List.length_cons]at hc;omega
mutual
theorem IF : ∀ (s:Sm) (nest bC:Int) (aM:Bool) (n:Nat) (out:List It),nest≤12→out.length≤n→n≤200→(Sm.l8 nest n s).1=true→
 ∃ new,fk nest bC aM out s=out++new∧It.dN n new=true∧n+new.length=(Sm.l8 nest n s).2∧(Sm.l8 nest n s).2≤200
 | ⟨id,kind,labels,name,proc,x,has,args,aY,e⟩,nest,bC,aM,n,out,IG,ho,hn,h=>by
  obtain⟨h1,h2,h3,h4,h5,h6⟩:=zO h
  dsimp only at h2 h4 h5 h6
  rw [h6]
  obtain⟨g1,e1⟩:=oV h4
  rw [e1]at h4 h5 ⊢
  obtain⟨g2,e2⟩:=oV h5
  rw [e2]at h5 ⊢
  have su:It.dN n [(⟨⟨id,kind,labels,name,proc,x,has,args,aY,e⟩,nest,bC,aM⟩:It)] = true:=(xR _ _).2 ⟨h2,IG,h3⟩
  obtain⟨n1,k1,k2,k3,k4⟩:=qZ aY (nest+1) id false (n+1) (out++ [⟨⟨id,kind,labels,name,proc,x,has,args,aY,e⟩,nest,bC,aM⟩]) g1 (by simp;omega) h1 h4
  obtain⟨n2,j1,j2,j3,j4⟩:=qZ e (nest+1) id true _ (out++ [⟨⟨id,kind,labels,name,proc,x,has,args,aY,e⟩,nest,bC,aM⟩]++n1) g2 (by simp;omega) k4 h5
  simp only [fk]
  rw [if_pos (by simpa using IG),k1,j1]
  refine⟨⟨⟨id,kind,labels,name,proc,x,has,args,aY,e⟩,nest,bC,aM⟩::(n1++n2),by simp, ?_, ?_,j4⟩
  ·have:(⟨⟨id,kind,labels,name,proc,x,has,args,aY,e⟩,nest,bC,aM⟩:It)::(n1++n2) = [⟨⟨id,kind,labels,name,proc,x,has,args,aY,e⟩,nest,bC,aM⟩]++n1++n2:=by simp
   rw [this,iz,iz,su,Bool.true_and]
   have e3:n+([(⟨⟨id,kind,labels,name,proc,x,has,args,aY,e⟩,nest,bC,aM⟩:It)]++n1).length=(Sm.dF (nest+1) (n+1) aY).2:=by simp;omega
   rw [e3,j2]
   have e4:n + [(⟨⟨id,kind,labels,name,proc,x,has,args,aY,e⟩,nest,bC,aM⟩:It)].length=n+1:=rfl
   rw [e4,k2];rfl
  ·simp only [List.length_cons,List.length_append];omega
theorem qZ : ∀ (l:List Sm) (nest bC:Int) (aM:Bool) (n:Nat) (out:List It),(l = []∨nest≤12)→out.length≤n→n≤200→(Sm.dF nest n l).1=true→
 ∃ new,cB nest bC aM out l=out++new∧It.dN n new=true∧n+new.length=(Sm.dF nest n l).2∧(Sm.dF nest n l).2≤200
 | [],nest,bC,aM,n,out,IG,ho,hn,h=>⟨[],by simp [cB],rfl,by simp [Sm.dF],by simpa [Sm.dF]using hn⟩
 | s::l,nest,bC,aM,n,out,IG,ho,hn,h=>by
  have QJ:nest≤12:=IG.resolve_left (by simp)
  simp only [Sm.dF]at h ⊢
  split at h
  ·cases h
  rename_i hc
  rw [if_neg hc]
  obtain⟨n1,k1,k2,k3,k4⟩:=IF s nest bC aM n out QJ ho hn (by simpa using hc)
  obtain⟨n2,j1,j2,j3,j4⟩:=qZ l nest bC aM _ (out++n1) (.inr QJ) (by simp;omega) k4 h
  simp only [cB]
  rw [if_pos (by simp only [decide_eq_true_eq];omega),k1,j1]
  refine⟨n1++n2,by simp, ?_,by simp;omega,j4⟩
  rw [iz,k2,k3,j2];rfl
end
mutual
theorem II : ∀ (s:Sm) (nest bC:Int) (aM:Bool) (n:Nat) (out new:List It),fk nest bC aM out s=out++new→It.dN n new=true→out.length≤n→n+new.length≤200→
 Sm.l8 nest n s=(true,n+new.length)∧nest≤12
 | ⟨id,kind,labels,name,proc,x,has,args,aY,e⟩,nest,bC,aM,n,out,new,jV,hm,ho,hn=>by
  obtain⟨n0,h0⟩:=uS nest bC aM ⟨id,kind,labels,name,proc,x,has,args,aY,e⟩ out
  have e0:new = ⟨⟨id,kind,labels,name,proc,x,has,args,aY,e⟩,nest,bC,aM⟩::n0:=List.append_cancel_left (jV.symm.trans h0)
  subst e0
  have SW:(⟨⟨id,kind,labels,name,proc,x,has,args,aY,e⟩,nest,bC,aM⟩:It)::n0 = [⟨⟨id,kind,labels,name,proc,x,has,args,aY,e⟩,nest,bC,aM⟩]++n0:=rfl
  rw [SW,iz,Bool.and_eq_true]at hm
  obtain⟨Co,hm2⟩:=hm
  obtain⟨c1,c2,c3⟩:=(xR _ _).1 Co
  dsimp only at c1 c2 c3
  simp only [List.length_cons]at hn ⊢
  have Ln:cB (nest+1) id true (cB (nest+1) id false (out++ [⟨⟨id,kind,labels,name,proc,x,has,args,aY,e⟩,nest,bC,aM⟩]) aY) e=out++([⟨⟨id,kind,labels,name,proc,x,has,args,aY,e⟩,nest,bC,aM⟩]++n0):=by
   simp only [fk]at jV
   rw [if_pos (by simpa using c2)]at jV
   exact jV
  obtain⟨n1,g1⟩:=mP (nest+1) id false aY (out++ [⟨⟨id,kind,labels,name,proc,x,has,args,aY,e⟩,nest,bC,aM⟩])
  obtain⟨n2,g2⟩:=mP (nest+1) id true e (cB (nest+1) id false (out++ [⟨⟨id,kind,labels,name,proc,x,has,args,aY,e⟩,nest,bC,aM⟩]) aY)
  have en:n0=n1++n2:=by
   rw [g2,g1]at Ln
   simp only [List.append_assoc,List.append_cancel_left_eq]at Ln
   exact Ln.symm
  subst en
  have Lo:It.dN (n+1) (n1++n2)=true:=hm2
  rw [iz,Bool.and_eq_true]at Lo
  simp only [List.length_append]at hn ⊢
  obtain⟨r1,r2⟩:=q4 aY (nest+1) id false (n+1) _ n1 g1 Lo.1 (by simp;omega) (by omega)
  obtain⟨q1,q2⟩:=q4 e (nest+1) id true (n+1+n1.length) _ n2 g2 Lo.2 (by rw [g1];simp;omega) (by omega)
  refine⟨?_,c2⟩
  have gg : ∀ {l:List Sm} {m:Nat} {r:Bool×Nat},Sm.dF (nest+1) m l=r→(l = []∨nest+1≤12)→Sm.eY (nest+1) m l=r:=by
   intro l m r h1 h2
   unfold Sm.eY gate
   rw [if_neg]
   ·exact h1
   ·simp only [Bool.and_eq_true,decide_eq_true_eq,not_and]
    rcases h2 with h2 | h2
    ·subst h2;simp
    ·omega
  have t1:=gg r1 r2
  have t2:=gg q1 q2
  rw [yT]
  dsimp only
  rw [t1]
  dsimp only
  rw [t2]
  rw [xQ,Bool.and_eq_true]at c3
  rw [if_neg]
  ·simp;omega
  ·simp only [Bool.or_eq_true,bne_iff_ne,ne_eq,decide_eq_true_eq,Bool.not_eq_true',not_or,Decidable.not_not,Bool.not_eq_false]
   exact⟨⟨⟨by omega,c1⟩,c3.1⟩,c3.2⟩
theorem q4 : ∀ (l:List Sm) (nest bC:Int) (aM:Bool) (n:Nat) (out new:List It),cB nest bC aM out l=out++new→It.dN n new=true→out.length≤n→n+new.length≤200→
 Sm.dF nest n l=(true,n+new.length)∧(l = []∨nest≤12)
 | [],nest,bC,aM,n,out,new,jV,hm,ho,hn=>by
  simp only [cB]at jV
  have:new = []:=by simpa using jV
  subst this
  exact⟨by simp [Sm.dF], .inl rfl⟩
 | s::l,nest,bC,aM,n,out,new,jV,hm,ho,hn=>by
  simp only [cB]at jV
  rw [if_pos (by simp only [decide_eq_true_eq];omega)]at jV
  obtain⟨n1,g1⟩:=uS nest bC aM s out
  obtain⟨n2,g2⟩:=mP nest bC aM l (fk nest bC aM out s)
  have en:new=(⟨s,nest,bC,aM⟩::n1)++n2:=by
   rw [g2,g1,List.append_assoc,List.append_cancel_left_eq]at jV
   exact jV.symm
  subst en
  rw [iz,Bool.and_eq_true]at hm
  rw [List.length_append]at hn ⊢
  obtain⟨r1,r2⟩:=II s nest bC aM n out _ g1 hm.1 ho (by omega)
  obtain⟨q1,q2⟩:=q4 l nest bC aM (n+(⟨s,nest,bC,aM⟩::n1:List It).length) _ n2 g2 hm.2 (by rw [g1,List.length_append];omega) (by omega)
  refine⟨?_, .inr r2⟩
  simp only [Sm.dF,r1,Bool.not_true,Bool.false_eq_true, ↓reduceIte,q1]
  congr 1;omega
end
theorem uT : ∀ (l:List Pc) (out:List It),out.length≤200→(Pc.dF out.length l=true↔Pc.jx l=true∧∃ new,allM out l=out++new∧(out++new).length≤200∧It.dN out.length new=true)
 | [],out,ho=>by simp [Pc.dF,Pc.jx,allM,It.dN];exact ho
 | f::l,out,ho=>by
  have uU : ∀ (l:List Pc) (out:List It),∃ new,allM out l=out++new:=by
   intro l
   induction l with
   | nil=>intro out;exact⟨[],by simp [allM]⟩
   | cons f l ih=>
    intro out
    simp only [allM]
    split
    ·exact⟨_,rfl⟩
    ·obtain⟨n1,h1⟩:=ih (out++f.flat)
     exact⟨f.flat++n1,by rw [h1,List.append_assoc]⟩
  simp only [Pc.dF,Pc.jx]
  have SX:(decide ((f.params.length:Int) > 8) || decide ((f.vars.length:Int) > 16) || !(isName f.name) || !(dw f.vars) || !(dw f.fin))=(!(isName f.name) || decide ((f.params.length:Int) > 8) || decide ((f.vars.length:Int) > 16) || !(dw f.vars) || !(dw f.fin)):=by
   cases isName f.name <;> simp
  rw [SX]
  split
  ·simp
  split
  ·simp
  have hg:Sm.eY 1 out.length f.body=Sm.dF 1 out.length f.body:=by unfold Sm.eY gate;rw [if_neg (by simp)]
  rw [hg]
  constructor
  ·intro h
   split at h
   ·cases h
   rename_i hc
   obtain⟨n1,k1,k2,k3,k4⟩:=qZ f.body 1 0 false out.length [] (.inr (by omega)) (by simp) ho (by simpa using hc)
   have jV:f.flat=n1:=by unfold Pc.flat;rw [k1];rfl
   rw [← k3, ← List.length_append]at h
   obtain⟨hh,n2,j1,j2,j3⟩:=(uT l (out++n1) (by rw [List.length_append];omega)).1 h
   refine⟨hh,n1++n2, ?_,by simpa using j2, ?_⟩
   ·simp only [allM,jV]
    rw [if_neg (by simp only [List.length_append,decide_eq_true_eq];omega),j1,List.append_assoc]
   ·rw [iz,k2, ← List.length_append,j3];rfl
  ·rintro⟨hh,new,j1,j2,j3⟩
   simp only [allM]at j1
   split at j1
   ·rename_i hc
    have:new=f.flat:=(List.append_cancel_left j1).symm
    subst this
    simp only [decide_eq_true_eq]at hc
    omega
   rename_i hc
   simp only [decide_eq_true_eq]at hc
   obtain⟨n2,g2⟩:=uU l (out++f.flat)
   have en:new=f.flat++n2:=by
    rw [g2,List.append_assoc]at j1
    exact(List.append_cancel_left j1).symm
   subst en
   rw [iz,Bool.and_eq_true]at j3
   rw [List.length_append,List.length_append]at j2
   obtain⟨r1,_⟩:=q4 f.body 1 0 false out.length [] f.flat (by unfold Pc.flat;rfl) j3.1 (by simp) (by omega)
   rw [r1]
   simp only [Bool.not_true,Bool.false_eq_true, ↓reduceIte]
   rw [← List.length_append]
   exact(uT l (out++f.flat) (by rw [List.length_append];omega)).2 ⟨hh,n2,g2,by simp;omega,by rw [List.length_append];exact j3.2⟩
theorem D0 (p:Pg):p.yV=p.may:=by
 have h:=uT p.procs [] (by simp)
 unfold Pg.yV Pg.may
 split
 ·rfl
 ·have e:Pc.dF 0 p.procs=(if !(Pc.jx p.procs)then false else if decide ((p.all.length:Int) > 200)then false else It.dN 0 p.all):=by
   rw [Bool.eq_iff_iff]
   have h':Pc.dF 0 p.procs=true↔_:=h
   rw [h']
   have ha:p.all=allM [] p.procs:=rfl
   constructor
   ·rintro⟨h1,new,h2,h3,h4⟩
    rw [ha,h2,h1]
    simp only [List.nil_append]at h3 ⊢
    simp only [Bool.not_true,Bool.false_eq_true, ↓reduceIte]
    rw [if_neg (by simp only [decide_eq_true_eq];omega)]
    exact h4
   ·intro h1
    cases hh:Pc.jx p.procs
    ·rw [hh]at h1;simp at h1
    ·rw [hh]at h1
     simp only [Bool.not_true,Bool.false_eq_true, ↓reduceIte]at h1
     split at h1
     ·cases h1
     ·rename_i hc
      simp only [decide_eq_true_eq]at hc
      exact⟨rfl,p.all,by rw [ha];rfl,by simp;omega,h1⟩
  exact e
end Go.Abs

/-! Tree1 -/

namespace Go.Abs
open Go.Proofs
end Go.Abs

/-! Tree2 -/

namespace Go.Abs
open Go.Proofs
end Go.Abs

/-! Sc1 -/

namespace Go.Abs
set_option maxRecDepth 8000
open Go.Proofs
def Wh (x:aD):List aD→Bool
 | []=>false
 | s::l=>if x==s then true else Wh x l
def v7 (pre:List aD):List aD→Bool
 | []=>false
 | s::l=>if dY pre s then true else v7 (pre++ [s]) l
def er (l:List aD):Bool:=v7 [] l
theorem IJ {l:List aD} {k:Nat} {a:aD} (h:l[k]? = some a):l.take (k+1)=l.take k++ [a]:=by rw [List.take_add_one,h];rfl
theorem wM {l:List aD} (hl:l.length<4611686018427387904) (g:Tag) (s:St):aI Try.prog kN [.slice g 1 (l.map encStr)] s (.bool (er l)) s:=by
 refine aI.Ik (d':= .slice .shared 1 (l.map encStr)) ?_ (Wk.shared _ _ _)
 refine aI.pure ?_ (by simp [D.bI,D.ok,Tag.ok,fc]) rfl s
 generalize h:er l=p
 simp only [er]at h
 unfold S0
 refine aI.go xA rfl fun B Q hB hQ=> ?_
 have⟨hD,hJ,hP,hZ⟩:=b7
 repeat' (first
 | simp only [go_sem,hD,hJ,hP,hZ]
 | (with_reducible first | refine cm fun hc=> ?_ | refine cq fun hc=> ?_ | refine cr (fun hc=> ?_) fun hc=> ?_) <;> (try simp only [hc,bs, ↓reduceIte]at h) <;> try simp only [hc]
 | (with_reducible refine aJ hQ ?_;(try cases h);simp only [az,aB,cY,cZ,go_sem,hD,hJ,hP,hZ];repeat' (first | exact Ok.out | with_reducible refine aR ?_ ?_ | (simp;done))))
 refine dG 0 0 (bq.ind (ι:=List aD×Nat) (fun i=>l.drop i.2=i.1∧v7 (l.take i.2) i.1=p) (fun i=>i.1.length)
  (fun i=> [(0, .slice .shared 1 (l.map encStr)),(5, .slice .shared 1 (l.map encStr)),(6, .int .i64 (l.length:Int)),(7, .int .i64 (i.2:Int))]) (fun i=>⟨[],[]⟩) ?_ (l,0) ⟨rfl,h⟩)
 rintro⟨rest,k⟩ ⟨h1,h⟩ IH
 dsimp only at h1 h
 cases rest with
 | nil=>
  have hD:=drop_nil h1
  simp only [v7]at h
  repeat' (first
 | simp only [go_sem,hD,hJ,hP,hZ]
 | (with_reducible first | refine cm fun hc=> ?_ | refine cq fun hc=> ?_ | refine cr (fun hc=> ?_) fun hc=> ?_) <;> (try simp only [hc,bs, ↓reduceIte]at h) <;> try simp only [hc]
 | (with_reducible refine aJ hQ ?_;(try cases h);simp only [az,aB,cY,cZ,go_sem,hD,hJ,hP,hZ];repeat' (first | exact Ok.out | with_reducible refine aR ?_ ?_ | (simp;done))))
 | cons a rest=>
  obtain⟨hJ,g2,hD,g4⟩:=drop_cons h1
  have bE:k<4611686018427387904:=by omega
  simp only [v7]at h
  have hc:=gL (l:=l.take k) (by rw [List.length_take];omega) a
  have e1:List.drop 0 (List.take k (l.map encStr))=(l.take k).map encStr:=by simp [List.map_take]
  have c1:((0:Int)≤(k:Int))=True:=by simp
  have c2:((k:Int)≤(l.length:Int))=True:=by simp only [eq_iff_iff,iff_true];omega
  have e2:List.take k (l.map encStr)=(l.take k).map encStr:=by simp [List.map_take]
  repeat' (first
 | simp only [go_sem,hD,hJ,hP,hZ,e1,e2,c1,c2,or_true,true_and,and_self,ite_self,Int.toNat_natCast,List.drop_zero]
 | (with_reducible refine CU (hc _ _) ?_)
 | (with_reducible first | refine cm fun hc=> ?_ | refine cq fun hc=> ?_ | refine cr (fun hc=> ?_) fun hc=> ?_) <;> (try simp only [hc,bs, ↓reduceIte]at h) <;> try simp only [hc]
 | (with_reducible refine aJ hQ ?_;(try cases h);simp only [az,aB,cY,cZ,go_sem,hD,hJ,hP,hZ,e1,e2,c1,c2,or_true,true_and,and_self,ite_self,Int.toNat_natCast,List.drop_zero];repeat' (first | exact Ok.out | with_reducible refine aR ?_ ?_ | (simp;done))))
  refine dt 0 0 ?_ ?_ (IH (rest,k+1) ⟨g2,by dsimp only;rw [IJ (by assumption)];exact h⟩ (Nat.lt_succ_self _))
  ·(simp only [go_sem,hD,hJ,hP,hZ,aF bE];try exact br)
  ·(simp only [go_sem,hD,hJ,hP,hZ,aF bE];try exact br)
end Go.Abs

/-! Sc2 -/

namespace Go.Abs
set_option maxRecDepth 8000
open Go.Proofs
def xS (vars globals:List aD) (name:aD):List Pm→Int
 | []=>if dY vars name then 4 else if dY globals name then 1 else 0
 | a::l=>if a.name==name then(if a.ref then 3 else 2)else xS vars globals name l
def Pc.jU (p:Pg) (f:Pc) (name:aD):Int:=xS f.vars p.globals name f.params
theorem Cp {p:Pg} {f:Pc} (hp:f.params.length<1000000000) (hv:f.vars.length<1000000000) (hg:p.globals.length<1000000000) (name:aD) (s:St):aI Try.prog qh [.agg (bP p), .agg (bT f), .str name] s (.int .i64 (f.jU p name)) s:=by
 refine aI.pure ?_ (by simp [D.bI,D.ok,iU,uD]) rfl s
 have nT:=gL (l:=f.vars) (by omega) name
 have sd:=gL (l:=p.globals) (by omega) name
 generalize h:f.jU p name=q
 simp only [Pc.jU]at h
 unfold S0
 refine aI.go yJ rfl fun B Q hB hQ=> ?_
 have⟨hD,hJ,hP,hZ⟩:=b7
 repeat' (first
 | simp only [go_sem,hD,hJ,hP,hZ]
 | (with_reducible refine aJ hQ ?_;simp only [az,aB,Option.some.injEq,exists_eq_left',go_sem,hD,hJ,hP,hZ];repeat' (first | exact Ok.out | with_reducible refine aR ?_ ?_ | (simp;done))))
 refine dG 2 0 (bq.ind (ι:=List Pm×Nat) (fun i=>f.params.drop i.2=i.1∧xS f.vars p.globals name i.1=q) (fun i=>i.1.length)
  (fun i=> [(2, .str name),(3, .ptr 0 0),(4, .ptr 1 0),(10, .slice .shared 2 (f.params.map fz)),(11, .int .i64 (f.params.length:Int)),(12, .int .i64 (i.2:Int))]) (fun i=>⟨[bP p,bT f],[]⟩) ?_ (f.params,0) ⟨rfl,h⟩)
 rintro⟨rest,k⟩ ⟨h1,h⟩ IH
 dsimp only at h1 h
 cases rest with
 | nil=>
  have hD:=drop_nil h1
  simp only [xS]at h
  rcases Bool.eq_false_or_eq_true (dY f.vars name)with b1 | b1
  ·simp only [b1,if_true]at h
   subst h
   repeat' (first
 | simp only [go_sem,hD,hJ,hP,hZ,b1]
 | (with_reducible refine CU (nT _ _) ?_)
 | (with_reducible refine CU (sd _ _) ?_)
 | (with_reducible refine aJ hQ ?_;simp only [az,aB,Option.some.injEq,exists_eq_left',go_sem,hD,hJ,hP,hZ];repeat' (first | exact Ok.out | with_reducible refine aR ?_ ?_ | (simp;done))))
  ·simp only [b1,Bool.false_eq_true,if_false]at h
   rcases Bool.eq_false_or_eq_true (dY p.globals name)with b2 | b2
   ·simp only [b2,if_true]at h
    subst h
    repeat' (first
 | simp only [go_sem,hD,hJ,hP,hZ,b1,b2]
 | (with_reducible refine CU (nT _ _) ?_)
 | (with_reducible refine CU (sd _ _) ?_)
 | (with_reducible refine aJ hQ ?_;simp only [az,aB,Option.some.injEq,exists_eq_left',go_sem,hD,hJ,hP,hZ];repeat' (first | exact Ok.out | with_reducible refine aR ?_ ?_ | (simp;done))))
   ·simp only [b2,Bool.false_eq_true,if_false]at h
    subst h
    repeat' (first
 | simp only [go_sem,hD,hJ,hP,hZ,b1,b2]
 | (with_reducible refine CU (nT _ _) ?_)
 | (with_reducible refine CU (sd _ _) ?_)
 | (with_reducible refine aJ hQ ?_;simp only [az,aB,Option.some.injEq,exists_eq_left',go_sem,hD,hJ,hP,hZ];repeat' (first | exact Ok.out | with_reducible refine aR ?_ ?_ | (simp;done))))
 | cons a rest=>
  obtain⟨hJ,g2,hD,g4⟩:=drop_cons h1
  have bE:k<4611686018427387904:=by omega
  simp only [xS]at h
  rcases Bool.eq_false_or_eq_true (a.name==name)with b1 | b1
  ·simp only [b1,if_true]at h
   rcases Bool.eq_false_or_eq_true a.ref with b2 | b2
   ·simp only [b2,if_true]at h
    subst h
    repeat' (first
 | simp only [go_sem,hD,hJ,hP,hZ,b1,b2]
 | (with_reducible refine aJ hQ ?_;simp only [az,aB,Option.some.injEq,exists_eq_left',go_sem,hD,hJ,hP,hZ];repeat' (first | exact Ok.out | with_reducible refine aR ?_ ?_ | (simp;done))))
   ·simp only [b2,Bool.false_eq_true,if_false]at h
    subst h
    repeat' (first
 | simp only [go_sem,hD,hJ,hP,hZ,b1,b2]
 | (with_reducible refine aJ hQ ?_;simp only [az,aB,Option.some.injEq,exists_eq_left',go_sem,hD,hJ,hP,hZ];repeat' (first | exact Ok.out | with_reducible refine aR ?_ ?_ | (simp;done))))
  ·simp only [b1,Bool.false_eq_true,if_false]at h
   repeat' (first
 | simp only [go_sem,hD,hJ,hP,hZ,b1]
 | (with_reducible refine aJ hQ ?_;simp only [az,aB,Option.some.injEq,exists_eq_left',go_sem,hD,hJ,hP,hZ];repeat' (first | exact Ok.out | with_reducible refine aR ?_ ?_ | (simp;done))))
   refine dt 2 0 ?_ ?_ (IH (rest,k+1) ⟨g2,h⟩ (Nat.lt_succ_self _))
   ·(simp only [go_sem,hD,hJ,hP,hZ,aF bE];try exact br)
   ·(simp only [go_sem,hD,hJ,hP,hZ,aF bE];try exact br)
def gu (name:aD):List Pc→Option Pc
 | []=>none
 | f::l=>if f.name==name then some f else gu name l
def Pg.find (p:Pg) (name:aD):Option Pc:=gu name p.procs
def pc0:Pc:=⟨[],[],[],[],[]⟩
def WL (r:Option Pc):D:= .tuple [.agg (bT (r.getD pc0)), .bool r.isSome]
theorem QL (f:Pc):bT f = [.str f.name, .slice .shared 2 (f.params.map fz), .slice .shared 1 (f.vars.map encStr), .slice .shared 13 (f.body.map a7), .slice .shared 1 (f.fin.map encStr)]:=nd rfl
end Go.Abs

/-! Sc3 -/

namespace Go.Abs
set_option maxRecDepth 8000
open Go.Proofs
def Pc.xT (f:Pc):List aD:=f.params.map (·.name)
def Pc.own (f:Pc):List aD:=f.xT++f.vars
theorem SY {f:Pc} (hp:f.params.length<1000000) (hv:f.vars.length<1000000) (s:St):aI Try.prog rB [.agg (bT f)] s (.slice .shared 1 (f.own.map encStr)) s:=by
 refine aI.pure ?_ (by simp [D.bI,D.ok,uD]) (by simp only [D.ok,Tag.ok,fc];rfl) s
 generalize hR:f.own=R
 simp only [Pc.own]at hR
 unfold S0
 refine aI.go Ay rfl fun B Q hB hQ=> ?_
 have⟨hD,hJ,hP,hZ⟩:=b7
 repeat' (first
 | simp only [go_sem,hD,hJ,hP,hZ]
 | (with_reducible refine aJ hQ ?_;simp only [az,aB,Option.some.injEq,exists_eq_left',go_sem,hD,hJ,hP,hZ];repeat' (first | exact Ok.out | with_reducible refine aR ?_ ?_ | (simp;done))))
 refine bq.o8 3 1 rfl ?_
 simp only [go_sem,hD,hJ,hP,hZ]
 refine dG 1 1 (bq.ind (ι:=List Pm×Nat×List aD×Nat) (fun i=>f.params.drop i.2.1=i.1∧i.2.2.1++i.1.map (·.name)=f.xT∧i.2.2.2=i.2.2.1.length) (fun i=>i.1.length)
  (fun i=> [(1, .ptr 0 0),(3, .slice (.tok 0) 1 (i.2.2.1.map encStr)),(7, .slice .shared 2 (f.params.map fz)),(8, .int .i64 (f.params.length:Int)),(9, .int .i64 (i.2.1:Int))]) (fun i=>⟨[bT f],[some i.2.2.2]⟩) ?_ (f.params,0,[],0) ⟨rfl,rfl,rfl⟩)
 rintro⟨rest,k,out,n⟩ ⟨h1,h2,h3⟩ IH
 dsimp only at h1 h2 h3
 subst h3
 have hlo:out.length+rest.length<1000000:=by
  have:=congrArg List.length h2
  simp only [List.length_append,List.length_map,Pc.xT]at this
  omega
 cases rest with
 | nil=>
  have hD:=drop_nil h1
  simp only [List.map_nil,List.append_nil]at h2
  subst hR
  rw [← h2]at hQ
  have eU:=ib (l:=out) (nx:=f.vars) rfl (by omega) (g:= .shared)
  repeat' (first
 | simp only [go_sem,hD,hJ,hP,hZ,eU]
 | (with_reducible refine aJ hQ ?_;simp only [az,aB,Option.some.injEq,exists_eq_left',go_sem,hD,hJ,hP,hZ];repeat' (first | exact Ok.out | with_reducible refine aR ?_ ?_ | (simp;done))))
 | cons a rest=>
  obtain⟨hJ,g2,hD,g4⟩:=drop_cons h1
  have bE:k<4611686018427387904:=by omega
  have hP:(out.length+1)*17≤bt:=by unfold bt;omega
  repeat' (first
 | simp only [go_sem,hD,hJ,hP,hZ]
 | (with_reducible refine aJ hQ ?_;simp only [az,aB,Option.some.injEq,exists_eq_left',go_sem,hD,hJ,hP,hZ];repeat' (first | exact Ok.out | with_reducible refine aR ?_ ?_ | (simp;done))))
  refine dt 1 1 ?_ ?_ (IH (rest,k+1,out++ [a.name],out.length+1) ⟨g2,by rw [← h2];simp,by simp⟩ (Nat.lt_succ_self _))
  ·(simp only [go_sem,hD,hJ,hP,hZ,aF bE,List.map_append,List.map_cons,List.map_nil,encStr];try exact br)
  ·(simp only [go_sem,hD,hJ,hP,hZ,aF bE,List.map_append,List.map_cons,List.map_nil,encStr];try exact br)
def mq:aD:= [109,97,105,110]
def Sm.known (p:Pg) (f:Pc) (procs:List aD) (v:Sm):Bool:=
 !(v.said.any fun n=>f.jU p n==0) && (v.kind != 4 || (v.proc != mq && dY procs v.proc))
structure Pc.Small (p:Pg) (f:Pc):Prop where
 par:f.params.length<1000000
 vars:f.vars.length<1000000
 Cj:p.globals.length<1000000
def vx (p:Pg) (f:Pc):List aD→Bool
 | []=>true
 | n::l=>if f.jU p n==0 then false else vx p f l
theorem zP (p:Pg) (f:Pc) : ∀ l,vx p f l = !(l.any fun n=>f.jU p n==0)
 | []=>rfl
 | n::l=>by
  simp only [vx,List.any_cons,zP p f l]
  cases (f.jU p n==0) <;> simp
theorem Cq (v:Sm) (h:v.kP):v.said.length<3000000:=by
 have : ∀ (l:List Ar) (out:List aD),(Ar.said out l).length≤out.length+2*Ar.aO l:=by
  intro l
  induction l with
  | nil=>intro out;simp [Ar.said]
  | cons a l ih=>
   intro out
   simp only [Ar.said,Ar.aO]
   refine Nat.le_trans (ih _) ?_
   have:=iG a.x
   have:1≤a.x.size:=by obtain⟨_,_,_,_⟩:=a.x;simp [Ex.size]
   simp only [List.length_append]
   split <;> simp <;> omega
 have h1:=this v.args (v.nC++v.x.names)
 have h2:=iG v.x
 have h3:=h.2.2
 have h4:v.nC.length≤1:=by unfold Sm.nC;split <;> simp
 simp only [List.length_append]at h1
 unfold Sm.said
 omega
theorem Oc {p:Pg} {f:Pc} {procs:List aD} {v:Sm} (hs:f.Small p) (zQ:procs.length<1000000) (hv:v.kP) (s:St):aI Try.prog mn [.agg (bP p), .agg (bT f), .slice .shared 1 (procs.map encStr), .agg (a7 v)] s (.bool (v.known p f procs)) s:=by
 refine aI.pure ?_ (by simp [D.bI,D.ok,iU,uD,kq,Tag.ok,fc]) rfl s
 have hn:=fun s=>uR hv s
 have hk:=fun n s=>Cp (p:=p) (f:=f) (by have:=hs.par;omega) (by have:=hs.vars;omega) (by have:=hs.Cj;omega) n s
 have QM:=gL (l:=procs) (by omega) v.proc
 have hl:=Cq v hv
 generalize h:v.known p f procs=q
 simp only [Sm.known, ← zP]at h
 unfold S0
 refine aI.go xB rfl fun B Q hB hQ=> ?_
 have⟨hD,hJ,hP,hZ⟩:=b7
 repeat' (first
 | simp only [go_sem,hD,hJ,hP,hZ]
 | (with_reducible refine CU (hn _) ?_)
 | (with_reducible refine aJ hQ ?_;simp only [az,aB,Option.some.injEq,exists_eq_left',go_sem,hD,hJ,hP,hZ];repeat' (first | exact Ok.out | with_reducible refine aR ?_ ?_ | (simp;done))))
 refine dG 3 0 (bq.ind (ι:=List aD×Nat) (fun i=>v.said.drop i.2=i.1∧(vx p f i.1 && (v.kind != 4 || (v.proc != mq && dY procs v.proc)))=q) (fun i=>i.1.length)
  (fun i=> [(2, .slice .shared 1 (procs.map encStr)),(4, .ptr 0 0),(5, .ptr 1 0),(7, .ptr 2 0),(12, .slice .shared 1 (v.said.map encStr)),(13, .int .i64 (v.said.length:Int)),(14, .int .i64 (i.2:Int))]) (fun i=>⟨[bP p,bT f,a7 v],[]⟩) ?_ (v.said,0) ⟨rfl,h⟩)
 rintro⟨rest,k⟩ ⟨h1,h⟩ IH
 dsimp only at h1 h
 cases rest with
 | nil=>
  have hD:=drop_nil h1
  simp only [vx,Bool.true_and]at h
  rcases Bool.eq_false_or_eq_true (v.kind != 4)with b1 | b1
  ·simp only [b1,Bool.true_or]at h
   subst h
   repeat' (first
 | simp only [go_sem,hD,hJ,hP,hZ,b1]
 | (with_reducible refine aJ hQ ?_;simp only [az,aB,Option.some.injEq,exists_eq_left',go_sem,hD,hJ,hP,hZ];repeat' (first | exact Ok.out | with_reducible refine aR ?_ ?_ | (simp;done))))
  ·simp only [b1,Bool.false_or]at h
   rcases Bool.eq_false_or_eq_true (v.proc != mq)with b2 | b2
   ·simp only [b2,Bool.true_and]at h
    unfold mq at b2
    have b3:(v.proc == [109,97,105,110]) = !(v.proc != [109,97,105,110]):=by simp only [bne,Bool.not_not]
    rw [b2]at b3
    simp only [Bool.not_true,Bool.not_false]at b3
    subst h
    repeat' (first
 | simp only [go_sem,hD,hJ,hP,hZ,b1,b2,b3]
 | (with_reducible refine CU (QM _ _) ?_)
 | (with_reducible refine aJ hQ ?_;simp only [az,aB,Option.some.injEq,exists_eq_left',go_sem,hD,hJ,hP,hZ];repeat' (first | exact Ok.out | with_reducible refine aR ?_ ?_ | (simp;done))))
   ·simp only [b2,Bool.false_and]at h
    unfold mq at b2
    have b3:(v.proc == [109,97,105,110]) = !(v.proc != [109,97,105,110]):=by simp only [bne,Bool.not_not]
    rw [b2]at b3
    simp only [Bool.not_true,Bool.not_false]at b3
    subst h
    repeat' (first
 | simp only [go_sem,hD,hJ,hP,hZ,b1,b2,b3]
 | (with_reducible refine CU (QM _ _) ?_)
 | (with_reducible refine aJ hQ ?_;simp only [az,aB,Option.some.injEq,exists_eq_left',go_sem,hD,hJ,hP,hZ];repeat' (first | exact Ok.out | with_reducible refine aR ?_ ?_ | (simp;done))))
 | cons a rest=>
  obtain⟨hJ,g2,hD,g4⟩:=drop_cons h1
  have bE:k<4611686018427387904:=by omega
  simp only [vx]at h
  rcases Bool.eq_false_or_eq_true (f.jU p a==0)with b1 | b1
  ·simp only [b1,if_true,Bool.false_and]at h
   subst h
   repeat' (first
 | simp only [go_sem,hD,hJ,hP,hZ,b1]
 | (with_reducible refine CU (hk _ _) ?_)
 | (with_reducible refine aJ hQ ?_;simp only [az,aB,Option.some.injEq,exists_eq_left',go_sem,hD,hJ,hP,hZ];repeat' (first | exact Ok.out | with_reducible refine aR ?_ ?_ | (simp;done))))
  ·simp only [b1,Bool.false_eq_true,if_false]at h
   repeat' (first
 | simp only [go_sem,hD,hJ,hP,hZ,b1]
 | (with_reducible refine CU (hk _ _) ?_)
 | (with_reducible refine aJ hQ ?_;simp only [az,aB,Option.some.injEq,exists_eq_left',go_sem,hD,hJ,hP,hZ];repeat' (first | exact Ok.out | with_reducible refine aR ?_ ?_ | (simp;done))))
   refine dt 3 0 ?_ ?_ (IH (rest,k+1) ⟨g2,h⟩ (Nat.lt_succ_self _))
   ·(simp only [go_sem,hD,hJ,hP,hZ,aF bE];try exact br)
   ·(simp only [go_sem,hD,hJ,hP,hZ,aF bE];try exact br)
end Go.Abs

/-! ScP -/

namespace Go.Abs
theorem D1 : ∀ (l pre:List aD),v7 pre l=true↔(∃ x∈l,x∈pre)∨¬ l.Nodup
 | [],pre=>by simp [v7]
 | s::l,pre=>by
  simp only [v7]
  by_cases h:dY pre s=true
  ·simp only [h,if_true,true_iff]
   exact .inl ⟨s,List.mem_cons_self,(hO _ _).1 h⟩
  ·have h':s∉pre:=fun m=>h ((hO _ _).2 m)
   simp only [h,if_false,Bool.false_eq_true]
   rw [D1 l (pre++ [s])]
   simp only [List.mem_append,List.mem_singleton,List.mem_cons,List.nodup_cons,exists_eq_or_imp]
   constructor
   ·rintro(⟨x,m,h1 | h1⟩ | h1)
    ·exact .inl (.inr ⟨x,m,h1⟩)
    ·have h1:x=s:=by simpa using h1
     subst h1;exact .inr fun h=>h.1 m
    ·exact .inr fun h=>h1 h.2
   ·rintro((h1 | ⟨x,m,h1⟩) | h1)
    ·exact absurd h1 h'
    ·exact .inl ⟨x,m, .inl h1⟩
    ·by_cases m:s∈l
     ·exact .inl ⟨s,m, .inr (.inl rfl)⟩
     ·exact .inr fun h=>h1 ⟨m,h⟩
theorem zR (l:List aD):er l=true↔¬ l.Nodup:=by
 unfold er;rw [D1];simp
theorem IK (a b:List aD):er (a++b)=(er a || (er b || b.any (dY a))):=by
 have h:er (a++b)=true↔(er a || (er b || b.any (dY a)))=true:=by
  rw [zR,List.nodup_append]
  simp only [Bool.or_eq_true,zR,List.any_eq_true,hO]
  constructor
  ·intro h
   by_cases ha:a.Nodup
   ·by_cases hb:b.Nodup
    ·refine .inr (.inr (Classical.byContradiction fun hn=>h ⟨ha,hb,fun x hx y hy e=>hn ⟨y,hy,e ▸ hx⟩⟩))
    ·exact .inr (.inl hb)
   ·exact .inl ha
  ·rintro(h | h | ⟨x,h1,h2⟩) ⟨h3,h4,h5⟩
   ·exact h h3
   ·exact h h4
   ·exact h5 x h2 x h1 rfl
 cases h1:er (a++b) <;> cases h2:(er a || (er b || b.any (dY a))) <;> simp_all
theorem Cr (name:aD) : ∀ (l:List Pc) (k:Nat),(gu name l=none∧kY name (k:Int) (l.map (·.name)) = -1)∨∃ f j,gu name l=some f∧l[j]? = some f∧kY name (k:Int) (l.map (·.name))=((k+j:Nat):Int)
 | [],k=> .inl ⟨rfl,rfl⟩
 | f::l,k=>by
  by_cases h:f.name=name
  ·subst h
   refine .inr ⟨f,0,by simp [gu],rfl,by simp [kY]⟩
  ·have h1:(f.name==name)=false:=by simp [h]
   have h2:(name==f.name)=false:=by simp [Ne.symm h]
   simp only [gu,h1,Bool.false_eq_true,if_false,List.map_cons,kY,h2]
   rcases Cr name l (k+1)with ⟨g1,g2⟩ | ⟨g,j,g1,g2,g3⟩
   ·exact .inl ⟨g1,by rw [← g2];rfl⟩
   ·refine .inr ⟨g,j+1,g1,by simpa using g2, ?_⟩
    rw [show((k:Int)+1)=((k+1:Nat):Int)from rfl,g3]
    congr 1;omega
theorem lG {name:aD} {f:Pc} : ∀ {l:List Pc},gu name l=some f→f∈l∧f.name=name
 | g::l,h=>by
  simp only [gu]at h
  split at h
  ·rename_i e;cases h;exact⟨List.mem_cons_self,by simpa using e⟩
  ·have:=lG h;exact⟨List.mem_cons_of_mem _ this.1,this.2⟩
mutual
theorem IL (deep bC:Int) (aM:Bool) (out:List It) : ∀ s:Sm,∃ e,fk deep bC aM out s=out++e
 | ⟨id,kind,labels,name,proc,x,has,args,aY,e⟩=>by
  simp only [fk]
  split
  ·obtain⟨e1,h1⟩:=oW (deep+1) id false (out++ [⟨⟨id,kind,labels,name,proc,x,has,args,aY,e⟩,deep,bC,aM⟩]) aY
   obtain⟨e2,h2⟩:=oW (deep+1) id true (cB (deep+1) id false (out++ [⟨⟨id,kind,labels,name,proc,x,has,args,aY,e⟩,deep,bC,aM⟩]) aY) e
   rw [h2,h1]
   exact⟨_,by rw [List.append_assoc,List.append_assoc]⟩
  ·exact⟨_,rfl⟩
theorem oW (deep bC:Int) (aM:Bool) (out:List It) : ∀ l:List Sm,∃ e,cB deep bC aM out l=out++e
 | []=>⟨[],by simp [cB]⟩
 | s::l=>by
  simp only [cB]
  split
  ·obtain⟨e1,h1⟩:=IL deep bC aM out s
   obtain⟨e2,h2⟩:=oW deep bC aM (fk deep bC aM out s) l
   rw [h2,h1]
   exact⟨_,by rw [List.append_assoc]⟩
  ·exact⟨[],by simp⟩
end
mutual
theorem IM (deep bC:Int) (aM:Bool) (out:List It) : ∀ s:Sm,(fk deep bC aM out s).length≤200→(∀ i∈fk deep bC aM out s,i.deep≤12)→(fk deep bC aM out s).map It.s=out.map It.s++s.pre
 | ⟨id,kind,labels,name,proc,x,has,args,aY,e⟩,h1,h2=>by
  simp only [fk,Sm.pre]at h1 h2 ⊢
  by_cases hd:deep≤12
  ·simp only [hd,decide_true,if_true]at h1 h2 ⊢
   obtain⟨e2,g2⟩:=oW (deep+1) id true (cB (deep+1) id false (out++ [⟨⟨id,kind,labels,name,proc,x,has,args,aY,e⟩,deep,bC,aM⟩]) aY) e
   have k1:(cB (deep+1) id false (out++ [⟨⟨id,kind,labels,name,proc,x,has,args,aY,e⟩,deep,bC,aM⟩]) aY).length≤200:=by
    rw [g2,List.length_append]at h1;omega
   have k2 : ∀ i∈cB (deep+1) id false (out++ [⟨⟨id,kind,labels,name,proc,x,has,args,aY,e⟩,deep,bC,aM⟩]) aY,i.deep≤12:=fun i m=>h2 i (by rw [g2];exact List.mem_append_left _ m)
   rw [q5 (deep+1) id true _ e h1 h2,q5 (deep+1) id false _ aY k1 k2]
   simp
  ·simp only [hd,decide_false,Bool.false_eq_true,if_false]at h1 h2
   exact absurd (h2 _ (List.mem_append_right _ (List.mem_singleton.2 rfl))) (by simpa using hd)
theorem q5 (deep bC:Int) (aM:Bool) (out:List It) : ∀ l:List Sm,(cB deep bC aM out l).length≤200→(∀ i∈cB deep bC aM out l,i.deep≤12)→(cB deep bC aM out l).map It.s=out.map It.s++Sm.dm l
 | [],h1,h2=>by simp [cB,Sm.dm]
 | s::l,h1,h2=>by
  simp only [cB,Sm.dm]at h1 h2 ⊢
  by_cases hc:(out.length:Int)≤200
  ·simp only [hc,decide_true,if_true]at h1 h2 ⊢
   obtain⟨e2,g2⟩:=oW deep bC aM (fk deep bC aM out s) l
   have k1:(fk deep bC aM out s).length≤200:=by rw [g2,List.length_append]at h1;omega
   have k2 : ∀ i∈fk deep bC aM out s,i.deep≤12:=fun i m=>h2 i (by rw [g2];exact List.mem_append_left _ m)
   rw [q5 deep bC aM _ l h1 h2,IM deep bC aM out s k1 k2]
   simp
  ·simp only [hc,decide_false,Bool.false_eq_true,if_false]at h1
   omega
end
theorem Cs : ∀ (l:List Pc) (out:List It),(allM out l).length≤200→(∀ i∈allM out l,i.deep≤12)→(∀ f∈l,f.flat.map It.s=Sm.dm f.body)∧(allM out l).map It.s=out.map It.s++(l.map fun f=>Sm.dm f.body).flatten
 | [],out,h1,h2=>⟨fun f m=>(by cases m),by simp [allM]⟩
 | f::l,out,h1,h2=>by
  simp only [allM]at h1 h2 ⊢
  by_cases hc:(((out++f.flat).length:Nat):Int) > 200
  ·simp only [hc,decide_true,if_true]at h1;omega
  ·simp only [hc,decide_false,Bool.false_eq_true,if_false]at h1 h2 ⊢
   obtain⟨k1,k2⟩:=Cs l (out++f.flat) h1 h2
   have uU : ∀ (l:List Pc) (out:List It),∃ e,allM out l=out++e:=by
    intro l
    induction l with
    | nil=>intro out;exact⟨[],by simp [allM]⟩
    | cons g l ih=>
     intro out
     simp only [allM]
     split
     ·exact⟨_,rfl⟩
     ·obtain⟨e,h⟩:=ih (out++g.flat);exact⟨g.flat++e,by rw [h];simp⟩
   obtain⟨e,he⟩:=uU l (out++f.flat)
   have k3:f.flat.map It.s=Sm.dm f.body:=by
    have:=q5 1 0 false [] f.body (by
     have:f.flat.length≤200:=by simp only [List.length_append]at hc;omega
     exact this) (fun i m=>h2 i (by rw [he];exact List.mem_append_left _ (List.mem_append_right _ m)))
    simpa [Pc.flat]using this
   refine⟨fun g m=> ?_, ?_⟩
   ·rcases List.mem_cons.1 m with rfl | m
    ·exact k3
    ·exact k1 g m
   ·rw [k2];simp [k3]
theorem uV : ∀ (l:List It) (n:Nat),It.dN n l=true→(∀ i∈l,i.deep≤12)∧∀ (j:Nat) (i:It),l[j]? = some i→i.s.id=((n+j+1:Nat):Int)
 | [],n,h=>⟨fun i m=>(by cases m),fun j i h=>by simp at h⟩
 | a::l,n,h=>by
  simp only [It.dN]at h
  split at h
  ·cases h
  ·rename_i c
   simp only [Bool.or_eq_true,not_or,bne_iff_ne,ne_eq,Decidable.not_not,decide_eq_true_eq,Int.not_lt,gt_iff_lt]at c
   obtain⟨k1,k2⟩:=uV l (n+1) h
   refine⟨fun i m=> ?_,fun j i hj=> ?_⟩
   ·rcases List.mem_cons.1 m with rfl | m
    ·exact c.1.2
    ·exact k1 i m
   ·cases j with
    | zero=>simp at hj;subst hj;rw [c.1.1]
    | succ j=>simp at hj;rw [k2 j i hj];congr 1;omega
theorem vy {p:Pg} (h:p.may=true):p.all.length≤200∧It.dN 0 p.all=true:=by
 unfold Pg.may at h
 split at h
 ·cases h
 ·split at h
  ·cases h
  ·split at h
   ·cases h
   ·rename_i c
    exact⟨by simp only [decide_eq_true_eq,Int.not_lt,gt_iff_lt]at c;omega,h⟩
theorem oi {p:Pg} (h:p.may=true):(∀ f∈p.procs,f.flat.map It.s=Sm.dm f.body)∧p.all.map It.s=p.pre:=by
 obtain⟨h1,h2⟩:=vy h
 have:=Cs p.procs [] h1 (uV _ 0 h2).1
 simpa [Pg.pre,Pg.all]using this
theorem xU {p:Pg} (h:p.may=true) {i:Nat} {v:Sm} (hv:p.pre[i]? = some v):v.id=((i+1:Nat):Int):=by
 rw [← (oi h).2,List.getElem?_map,Option.map_eq_some_iff]at hv
 obtain⟨it,h1,rfl⟩:=hv
 have:=(uV _ 0 (vy h).2).2 i it h1
 rw [this];congr 1;omega
end Go.Abs

/-! Sc4 -/

namespace Go.Abs
set_option maxRecDepth 8000
open Go.Proofs
structure Pg.jy (p:Pg):Prop where
 QN:p.A6
 sz:p.size≤900000
mutual
theorem QO : ∀ s:Sm,s.qV→s.size<1000000→∀ v∈s.pre,v.kP∧v.py
 | ⟨id,kind,labels,name,proc,x,has,args,aY,aM⟩,h,hs,v,m=>by
  simp only [Sm.qV]at h
  simp only [Sm.size]at hs
  simp only [Sm.pre,List.mem_cons,List.mem_append]at m
  rcases m with rfl | m | m
  ·exact⟨⟨h.1.xt,fun a ha=>(h.1.arg a ha).2.1,by dsimp only;omega⟩,h.1⟩
  ·exact vz aY h.2.1 (by omega) v m
  ·exact vz aM h.2.2 (by omega) v m
theorem vz : ∀ l:List Sm,Sm.gR l→Sm.aO l<1000000→∀ v∈Sm.dm l,v.kP∧v.py
 | [],h,hs,v,m=>by simp [Sm.dm]at m
 | s::l,h,hs,v,m=>by
  simp only [Sm.gR]at h
  simp only [Sm.aO]at hs
  simp only [Sm.dm,List.mem_append]at m
  rcases m with m | m
  ·exact QO s h.1 (by omega) v m
  ·exact vz l h.2 (by omega) v m
end
theorem Pg.jy.said {p:Pg} (h:p.jy) {f:Pc} (hf:f∈p.procs) : ∀ v∈Sm.dm f.body,v.kP:=fun v m=>by
 have h1:=Pc.bW hf
 have h2:=h.sz
 simp only [Pg.size]at h2
 simp only [Pc.size]at h1
 exact(vz f.body (h.QN.body f hf) (by omega) v m).1
theorem Pg.jy.small {p:Pg} (h:p.jy) {f:Pc} (hf:f∈p.procs):f.Small p:=by
 have h1:=Pc.bW hf
 have h2:=h.sz
 simp only [Pg.size]at h2
 simp only [Pc.size]at h1
 exact⟨by omega,by omega,by omega⟩
theorem Pg.jy.procs {p:Pg} (h:p.jy):p.procs.length≤900000∧Pc.aO p.procs≤900000∧p.globals.length≤900000:=by
 have h2:=h.sz
 have h3:=Pc.cH p.procs
 simp only [Pg.size]at h2
 omega
def Pg.pn (p:Pg):List aD:=p.procs.map (·.name)
def rJ (p:Pg) (f:Pc) (procs:List aD):List Sm→Option Sm
 | []=>none
 | v::l=>if v.known p f procs then rJ p f procs l else some v
def nD (p:Pg) (procs:List aD):List Pc→Int×Int
 | []=>(0,0)
 | f::l=>if er (p.globals++f.own)then(5,0)else match rJ p f procs (Sm.dm f.body)with | some v=>(5,v.id) | none=>nD p procs l
def Pg.oX (p:Pg):Bool:=match p.find mq with | none=>true | some m=>decide ((m.params.length:Int) > 0)
def Pg.scope (p:Pg):Int×Int:=
 if p.may then if er p.globals || (er p.pn || p.oX)then(5,0)else nD p p.pn p.procs else(1,0)
theorem Lp (p:Pg) (hl:p.globals.length<1000000) (n:aD):aI Try.prog lf ([.str n]++ [.ptr 0 0]) ⟨[bP p],[]⟩ (.bool (dY p.globals n)) ⟨[bP p],[]⟩:=by
 show aI Try.prog lf [.str n, .ptr 0 0] _ _ _
 have oI:=gL (l:=p.globals) (by omega) n
 refine aI.go vG rfl fun B Q hB hQ=> ?_
 have⟨hD,hJ,hP,hZ⟩:=b7
 repeat' (first
 | simp only [go_sem,hD,hJ,hP,hZ]
 | (with_reducible refine CU (oI _ _) ?_)
 | (with_reducible refine aJ hQ ?_;simp only [az,aB,Option.some.injEq,exists_eq_left',go_sem,hD,hJ,hP,hZ];repeat' (first | exact Ok.out | with_reducible refine aR ?_ ?_ | (simp;done))))
theorem SZ (n m:Nat) (p:Pg):D.fA n m (ja p)=ja p:=fH n m _ (yQ p)
attribute [go_sem] SZ
theorem Od {p:Pg} {f:Pc} {procs:List aD} {v:Sm} (hs:f.Small p) (zQ:procs.length<1000000) (hv:v.kP) (g:Tag) (s:St):aI Try.prog mn [.agg (bP p), .agg (bT f), .slice g 1 (procs.map encStr), .agg (a7 v)] s (.bool (v.known p f procs)) s:=
 dJ.BB (.cons (Wk.refl _) (.cons (Wk.refl _) (.cons (Wk.shared g 1 _) (jW.refl _)))) (Oc hs zQ hv s)
theorem wN {p:Pg} (h:p.jy) (s:St):aI Try.prog kL [.agg (bP p)] s (.agg [.int .i64 p.scope.1, .int .i64 p.scope.2]) s:=by
 refine aI.pure ?_ (by simp [D.bI,D.ok,iU]) rfl s
 have hm:=fun s=>QE h.QN s
 simp only [D0]at hm
 obtain⟨sa,qW,sr⟩:=h.procs
 have de:=fun s=>A3 (p:=p) (by omega) s
 have lW:=fun s=>wM (l:=p.globals) (by omega) .shared s
 have hpn:p.pn.length=p.procs.length:=by simp [Pg.pn]
 have xj:=fun g s=>wM (l:=p.pn) (by omega) g s
 have hix:=fun g s=>(DW (l:=p.pn) (by omega) mq s).Ik (Wk.shared g 1 (p.pn.map encStr))
 have wO:=fun g s=>(show aI Try.prog fT [.slice g 1 (p.pn.map encStr), .str [109,97,105,110]] s (.int .i64 (kY mq 0 p.pn)) s from hix g s)
 generalize hR:p.scope=R
 simp only [Pg.scope]at hR
 unfold S0
 rcases Bool.eq_false_or_eq_true p.may with hb | hb
 case inr=>
  simp only [hb]at hm
  simp only [hb,Bool.false_eq_true,if_false]at hR
  subst hR
  refine aI.go qP rfl fun B Q hB hQ=> ?_
  have⟨hD,hJ,hP,hZ⟩:=b7
  repeat' (first
 | simp only [go_sem,hD,hJ,hP,hZ]
 | (with_reducible refine CU (hm _) ?_)
 | (with_reducible refine aJ hQ ?_;simp only [az,aB,Option.some.injEq,exists_eq_left',go_sem,hD,hJ,hP,hZ];repeat' (first | exact Ok.out | with_reducible refine aR ?_ ?_ | (simp;done))))
 simp only [hb]at hm
 simp only [hb,if_true]at hR
 refine aI.go qP rfl fun B Q hB hQ=> ?_
 have⟨hD,hJ,hP,hZ⟩:=b7
 repeat' (first
 | simp only [go_sem,hD,hJ,hP,hZ]
 | (with_reducible refine CU (hm _) ?_)
 | (with_reducible refine aJ hQ ?_;simp only [az,aB,Option.some.injEq,exists_eq_left',go_sem,hD,hJ,hP,hZ];repeat' (first | exact Ok.out | with_reducible refine aR ?_ ?_ | (simp;done))))
 refine bq.o8 3 1 rfl ?_
 simp only [go_sem,hD,hJ,hP,hZ]
 refine dG 2 1 (bq.ind (ι:=List Pc×Nat×List aD×Nat) (fun i=>p.procs.drop i.2.1=i.1∧i.2.2.1++i.1.map (·.name)=p.pn∧i.2.2.2=i.2.2.1.length) (fun i=>i.1.length)
  (fun i=> [(1, .ptr 0 0),(2, .ptr 1 0),(3, .slice (.tok 0) 1 (i.2.2.1.map encStr)),(18, .slice .shared 5 (p.procs.map bT)),(19, .int .i64 (p.procs.length:Int)),(20, .int .i64 (i.2.1:Int))]) (fun i=>⟨[bP p,[.int .i64 0, .int .i64 0]],[some i.2.2.2]⟩) ?_ (p.procs,0,[],0) ⟨rfl,rfl,rfl⟩)
 rintro⟨rest,k,out,n⟩ ⟨h1,h2,h3⟩ IH
 dsimp only at h1 h2 h3
 subst h3
 have hlo:out.length+rest.length≤900000:=by
  have:=congrArg List.length h2
  simp only [List.length_append,List.length_map]at this
  omega
 cases rest with
 | cons a rest=>
  obtain⟨hJ,g2,hD,g4⟩:=drop_cons h1
  have bE:k<4611686018427387904:=by omega
  have hP:(out.length+1)*17≤bt:=by unfold bt;omega
  repeat' (first
 | simp only [go_sem,hD,hJ,hP,hZ]
 | (with_reducible refine aJ hQ ?_;simp only [az,aB,Option.some.injEq,exists_eq_left',go_sem,hD,hJ,hP,hZ];repeat' (first | exact Ok.out | with_reducible refine aR ?_ ?_ | (simp;done))))
  refine dt 2 1 ?_ ?_ (IH (rest,k+1,out++ [a.name],out.length+1) ⟨g2,by rw [← h2];simp,by simp⟩ (Nat.lt_succ_self _))
  ·(simp only [go_sem,hD,hJ,hP,hZ,aF bE,List.map_append,List.map_cons,List.map_nil,encStr];try exact br)
  ·(simp only [go_sem,hD,hJ,hP,hZ,aF bE,List.map_append,List.map_cons,List.map_nil,encStr];try exact br)
 | nil=>
  have hD:=drop_nil h1
  simp only [List.map_nil,List.append_nil]at h2
  subst h2
  rcases Bool.eq_false_or_eq_true (er p.globals)with b1 | b1
  ·simp only [b1,Bool.true_or,if_true]at hR
   subst hR
   repeat' (first
 | simp only [go_sem,hD,hJ,hP,hZ,b1]
 | (with_reducible refine CU (wO _ _) ?_)
 | (with_reducible refine CU (lW _) ?_)
 | (with_reducible refine CU (xj _ _) ?_)
 | (with_reducible refine aJ hQ ?_;simp only [az,aB,Option.some.injEq,exists_eq_left',go_sem,hD,hJ,hP,hZ];repeat' (first | exact Ok.out | with_reducible refine aR ?_ ?_ | (simp;done))))
  rcases Bool.eq_false_or_eq_true (er p.pn)with b2 | b2
  ·simp only [b1,b2,Bool.true_or,Bool.or_true,if_true]at hR
   subst hR
   repeat' (first
 | simp only [go_sem,hD,hJ,hP,hZ,b1,b2]
 | (with_reducible refine CU (wO _ _) ?_)
 | (with_reducible refine CU (lW _) ?_)
 | (with_reducible refine CU (xj _ _) ?_)
 | (with_reducible refine aJ hQ ?_;simp only [az,aB,Option.some.injEq,exists_eq_left',go_sem,hD,hJ,hP,hZ];repeat' (first | exact Ok.out | with_reducible refine aR ?_ ?_ | (simp;done))))
  rcases Cr mq p.procs 0 with ⟨e1,e2⟩ | ⟨m,j,e1,e2,e3⟩
  ·have b3:p.oX=true:=by unfold Pg.oX Pg.find;rw [e1]
   have hi:kY mq 0 p.pn = -1:=e2
   simp only [b1,b2,b3,Bool.or_true,if_true]at hR
   subst hR
   simp only [hi]at wO
   have d1:decide ((-1:Int)<0)=true:=by decide
   repeat' (first
 | simp only [go_sem,hD,hJ,hP,hZ,b1,b2,d1]
 | (with_reducible refine CU (wO _ _) ?_)
 | (with_reducible refine CU (lW _) ?_)
 | (with_reducible refine CU (xj _ _) ?_)
 | (with_reducible refine aJ hQ ?_;simp only [az,aB,Option.some.injEq,exists_eq_left',go_sem,hD,hJ,hP,hZ];repeat' (first | exact Ok.out | with_reducible refine aR ?_ ?_ | (simp;done))))
  have hi:kY mq 0 p.pn=((j:Nat):Int):=by rw [show p.pn=p.procs.map (·.name)from rfl];simpa using e3
  simp only [hi]at wO
  have d1:decide (((j:Nat):Int)<0)=false:=by simp
  have hj:j<p.procs.length:=(List.getElem?_eq_some_iff.1 e2).1
  have b3:p.oX=decide ((m.params.length:Int) > 0):=by unfold Pg.oX Pg.find;rw [e1]
  rw [b3]at hR
  rcases Bool.eq_false_or_eq_true (decide ((m.params.length:Int) > 0))with b4 | b4
  ·simp only [b1,b2,b4,Bool.or_true,if_true]at hR
   subst hR
   repeat' (first
 | simp only [go_sem,hD,hJ,hP,hZ,b1,b2,d1,e2,b4]
 | (with_reducible refine CU (wO _ _) ?_)
 | (with_reducible refine CU (lW _) ?_)
 | (with_reducible refine CU (xj _ _) ?_)
 | (with_reducible refine aJ hQ ?_;simp only [az,aB,Option.some.injEq,exists_eq_left',go_sem,hD,hJ,hP,hZ];repeat' (first | exact Ok.out | with_reducible refine aR ?_ ?_ | (simp;done))))
  simp only [b1,b2,b4,Bool.or_false,Bool.false_eq_true,if_false]at hR
  repeat' (first
 | simp only [go_sem,hD,hJ,hP,hZ,b1,b2,d1,e2,b4]
 | (with_reducible refine CU (wO _ _) ?_)
 | (with_reducible refine CU (lW _) ?_)
 | (with_reducible refine CU (xj _ _) ?_)
 | (with_reducible refine CU (de _) ?_)
 | (with_reducible refine aJ hQ ?_;simp only [az,aB,Option.some.injEq,exists_eq_left',go_sem,hD,hJ,hP,hZ];repeat' (first | exact Ok.out | with_reducible refine aR ?_ ?_ | (simp;done))))
  refine dG 2 1 (bq.ind (ι:=List Pc×Nat) (fun i=>p.procs.drop i.2=i.1∧nD p p.pn i.1=R) (fun i=>i.1.length)
   (fun i=> [(1, .ptr 0 0),(2, .ptr 1 0),(3, .slice (.tok 0) 1 (p.pn.map encStr)),(7, .dc (ja p) 0),(57, .slice .shared 5 (p.procs.map bT)),(58, .int .i64 (p.procs.length:Int)),(59, .int .i64 (i.2:Int))]) (fun i=>⟨[bP p,[.int .i64 0, .int .i64 0]],[some p.pn.length]⟩) ?_ (p.procs,0) ⟨rfl,hR⟩)
  clear IH h1 hD hR
  rintro⟨rest,k⟩ ⟨h1,hR⟩ IH
  dsimp only at h1 hR
  cases rest with
  | nil=>
   have hD:=drop_nil h1
   simp only [nD]at hR
   subst hR
   repeat' (first
 | simp only [go_sem,hD,hJ,hP,hZ]
 | (with_reducible refine aJ hQ ?_;simp only [az,aB,Option.some.injEq,exists_eq_left',go_sem,hD,hJ,hP,hZ];repeat' (first | exact Ok.out | with_reducible refine aR ?_ ?_ | (simp;done))))
  | cons f rest=>
   obtain⟨hJ,g2,hD,g4⟩:=drop_cons h1
   have bE:k<4611686018427387904:=by omega
   have MQ:=List.mem_of_getElem? hJ
   have zS:=h.small MQ
   have IN:=fun s=>SY (f:=f) zS.par zS.vars s
   have lV:f.own.length<4611686018427387904:=by have h1:=zS.par;have h2:=zS.vars;unfold Pc.own Pc.xT;simp;omega
   have QP:=fun s=>wM (l:=f.own) lV .shared s
   have Ct:=fun {s:St} {o:Nat} (ho:s.av[o]? = some (bP p))=>sq (l:=f.own) lV (f:=lf) (row:=bP p) (b:=dY p.globals) (iU p) (by with_unfolding_all rfl) (fun x _=>Lp p zS.Cj x) ho
   have Lq:=fun {s:St} {o:Nat} (ho:s.av[o]? = some (bP p))=>(show aI Try.prog eC [.slice .shared 1 (f.own.map encStr), .fi 35 [.ptr o 0]] s (.bool (f.own.any (dY p.globals))) s from Ct ho)
   simp only [nD,IK,b1,Bool.false_or]at hR
   rcases Bool.eq_false_or_eq_true (er f.own)with c1 | c1
   ·simp only [c1,Bool.true_or,if_true]at hR
    subst hR
    repeat' (first
 | simp only [go_sem,hD,hJ,hP,hZ,c1]
 | (with_reducible refine CU (IN _) ?_)
 | (with_reducible refine CU (QP _) ?_)
 | (with_reducible refine CU (Lq (by with_unfolding_all rfl)) ?_)
 | (with_reducible refine aJ hQ ?_;simp only [az,aB,Option.some.injEq,exists_eq_left',go_sem,hD,hJ,hP,hZ];repeat' (first | exact Ok.out | with_reducible refine aR ?_ ?_ | (simp;done))))
   rcases Bool.eq_false_or_eq_true (f.own.any (dY p.globals))with c2 | c2
   ·simp only [c1,c2,Bool.false_or,if_true]at hR
    subst hR
    repeat' (first
 | simp only [go_sem,hD,hJ,hP,hZ,c1,c2]
 | (with_reducible refine CU (IN _) ?_)
 | (with_reducible refine CU (QP _) ?_)
 | (with_reducible refine CU (Lq (by with_unfolding_all rfl)) ?_)
 | (with_reducible refine aJ hQ ?_;simp only [az,aB,Option.some.injEq,exists_eq_left',go_sem,hD,hJ,hP,hZ];repeat' (first | exact Ok.out | with_reducible refine aR ?_ ?_ | (simp;done))))
   simp only [c1,c2,Bool.or_self,Bool.false_eq_true,if_false]at hR
   obtain⟨it,su,IP⟩:=K6 hJ (by omega)
   rw [← su]at hR
   have QQ:it.length≤900000:=by
    have e:=congrArg List.length su
    have e2:=(mN p).2 k f hJ
    obtain⟨a,b,e',_,_,e3,e4⟩:=e2
    have e5:=mO p
    have e6:=congrArg List.length e3
    rw [e4]at e5
    simp only [List.length_map,List.length_append]at e e5 e6
    omega
   repeat' (first
 | simp only [go_sem,hD,hJ,hP,hZ,c1,c2]
 | (with_reducible refine CU (IN _) ?_)
 | (with_reducible refine CU (QP _) ?_)
 | (with_reducible refine CU (Lq (by with_unfolding_all rfl)) ?_)
 | (with_reducible refine CU (IP _) ?_)
 | (with_reducible refine aJ hQ ?_;simp only [az,aB,Option.some.injEq,exists_eq_left',go_sem,hD,hJ,hP,hZ];repeat' (first | exact Ok.out | with_reducible refine aR ?_ ?_ | (simp;done))))
   obtain⟨q,hq⟩ : ∃ q,rJ p f p.pn (it.map Im.s)=q:=⟨_,rfl⟩
   rw [hq]at hR
   refine dG 3 1 (bq.ind (ι:=List Im×Nat) (fun i=>it.drop i.2=i.1∧rJ p f p.pn (i.1.map Im.s)=q) (fun i=>i.1.length)
    (fun i=> [(1, .ptr 0 0),(2, .ptr 1 0),(3, .slice (.tok 0) 1 (p.pn.map encStr)),(7, .dc (ja p) 0),(9, .ptr 2 0),(57, .slice .shared 5 (p.procs.map bT)),(58, .int .i64 (p.procs.length:Int)),(59, .int .i64 (k:Int)),(76, .slice .shared 17 (it.map ey)),(77, .int .i64 (it.length:Int)),(78, .int .i64 (i.2:Int))]) (fun i=>⟨[bP p,[.int .i64 0, .int .i64 0],bT f],[some p.pn.length]⟩) ?_ (it,0) ⟨rfl,hq⟩)
   rintro⟨Gh,n⟩ ⟨j1,j2⟩ MT
   dsimp only at j1 j2
   have oK:=hD
   cases Gh with
   | nil=>
    have Wi:=drop_nil j1
    simp only [List.map_nil,rJ]at j2
    subst j2
    simp only at hR
    repeat' (first
 | simp only [go_sem,hD,hJ,hP,hZ,Wi]
 | (with_reducible refine aJ hQ ?_;simp only [az,aB,Option.some.injEq,exists_eq_left',go_sem,hD,hJ,hP,hZ];repeat' (first | exact Ok.out | with_reducible refine aR ?_ ?_ | (simp;done))))
    refine dt 2 1 ?_ ?_ (IH (rest,k+1) ⟨g2,hR⟩ (Nat.lt_succ_self _))
    ·(simp only [go_sem,hD,hJ,hP,hZ,aF bE];try exact br)
    ·(simp only [go_sem,hD,hJ,hP,hZ,aF bE];try exact br)
   | cons i Gh=>
    obtain⟨nE,D2,uW,TV⟩:=drop_cons j1
    have sv:n<4611686018427387904:=by omega
    have v8:i.s∈Sm.dm f.body:=by rw [← su];exact List.mem_map_of_mem (List.mem_of_getElem? nE)
    have Cu:=Od (v:=i.s) zS (procs:=p.pn) (by omega) (h.said MQ _ v8)
    simp only [List.map_cons,rJ]at j2
    rcases Bool.eq_false_or_eq_true (i.s.known p f p.pn)with c3 | c3
    ·simp only [c3,if_true]at j2
     repeat' (first
 | simp only [go_sem,hD,hJ,hP,hZ,uW,nE,c3]
 | (with_reducible refine CU (Cu _ _) ?_)
 | (with_reducible refine aJ hQ ?_;simp only [az,aB,Option.some.injEq,exists_eq_left',go_sem,hD,hJ,hP,hZ];repeat' (first | exact Ok.out | with_reducible refine aR ?_ ?_ | (simp;done))))
     refine dt 3 1 ?_ ?_ (MT (Gh,n+1) ⟨D2,j2⟩ (Nat.lt_succ_self _))
     ·(simp only [go_sem,hD,hJ,hP,hZ,aF sv];try exact br)
     ·(simp only [go_sem,hD,hJ,hP,hZ,aF sv];try exact br)
    ·simp only [c3,Bool.false_eq_true,if_false]at j2
     subst j2
     simp only at hR
     subst hR
     repeat' (first
 | simp only [go_sem,hD,hJ,hP,hZ,uW,nE,c3]
 | (with_reducible refine CU (Cu _ _) ?_)
 | (with_reducible refine aJ hQ ?_;simp only [az,aB,Option.some.injEq,exists_eq_left',go_sem,hD,hJ,hP,hZ];repeat' (first | exact Ok.out | with_reducible refine aR ?_ ?_ | (simp;done))))
end Go.Abs

/-! Rng -/

namespace Go.Abs
mutual
def Ex.nF:Ex→Prop
 | ⟨_,n,_,kids⟩=>n≤9223372036854775807∧Ex.rK kids
def Ex.rK:List Ex→Prop
 | []=>True
 | x::l=>x.nF∧Ex.rK l
end
end Go.Abs

/-! FineM -/

namespace Go.Abs
mutual
def Sm.nF:Sm→Prop
 | ⟨_,_,_,_,_,x,_,args,aY,aM⟩=>x.nF∧(∀ a∈args,a.x.nF)∧Sm.rK aY∧Sm.rK aM
def Sm.rK:List Sm→Prop
 | []=>True
 | s::l=>s.nF∧Sm.rK l
end
def Pg.nF (p:Pg):Prop:=∀ f∈p.procs,Sm.rK f.body
theorem zT {f:Pc} : ∀ {l:List Pc} {n:Nat},Pc.dF n l=true→f∈l→(isName f.name=true∧dw f.vars=true∧dw f.fin=true∧Pm.dN f.params=true)∧∃ n,(Sm.eY 1 n f.body).1=true
 | g::l,n,h,m=>by
  simp only [Pc.dF]at h
  split at h
  ·cases h
  rename_i c1
  split at h
  ·cases h
  rename_i c2
  split at h
  ·cases h
  rename_i c3
  simp only [Bool.or_eq_true,Bool.not_eq_true',not_or,Bool.not_eq_false]at c1 c2 c3
  rcases List.mem_cons.1 m with rfl | m
  ·exact⟨⟨c1.1.1.2,c1.1.2,c1.2,c2⟩,n,c3⟩
  ·exact zT h m
mutual
theorem Gi : ∀ (s:Sm) (nest:Int) (n:Nat),(Sm.l8 nest n s).1=true→s.size<4611686018427387000→s.qV
 | ⟨id,kind,labels,name,proc,x,has,args,aY,aM⟩,nest,n,hm,hs=>by
  obtain⟨_,_,h1,h2,h3,_⟩:=zO hm
  rw [wL]
  rw [(oV h2).2]at h2
  rw [(oV h3).2]at h3
  refine⟨Cm h1 hs,pS aY _ _ h2 ?_,pS aM _ _ h3 ?_⟩ <;> simp only [Sm.size]at hs <;> omega
theorem pS : ∀ (l:List Sm) (nest:Int) (n:Nat),(Sm.dF nest n l).1=true→Sm.aO l<4611686018427387000→Sm.gR l
 | [],_,_,_,_=>by simp only [Sm.gR]
 | s::l,nest,n,hm,hs=>by
  simp only [Sm.dF]at hm
  simp only [Sm.aO]at hs
  split at hm
  ·cases hm
  rename_i hc
  simp only [Bool.not_eq_true',Bool.not_eq_false]at hc
  exact⟨Gi s nest n hc (by omega),pS l nest _ hm (by omega)⟩
end
theorem uX {p:Pg} (h:p.may=true) (hs:p.size<4611686018427387000):p.A6:=by
 have hf:=Lj h hs
 rw [← D0]at h
 unfold Pg.yV at h
 split at h
 ·cases h
 refine⟨hf.sz,hf.Cj,hf.jx,fun f m=> ?_⟩
 obtain⟨_,n,e⟩:=zT h m
 rw [(oV e).2]at e
 have:=Pc.bW m
 simp only [Pg.size]at hs
 exact pS f.body 1 n e (by unfold Pc.size at this;omega)
end Go.Abs

/-! Sc5 -/

namespace Go.Abs
open Go.Proofs
theorem Lr (x:It):(eh x)[1]? = some (.int .i64 x.s.kind):=nd rfl
theorem Ls (x:It):(eh x)[3]? = some (.str x.s.name):=nd rfl
theorem Lt (x:It):(eh x)[4]? = some (.str x.s.proc):=nd rfl
theorem Oe (x:It):List.take 16 (eh x)=eh x:=nd rfl
attribute [go_sem] Lr Ls Lt Oe
end Go.Abs

/-! Ar1 -/

namespace Go.Abs
set_option maxRecDepth 8000
open Go.Proofs
def xV:List Pm→List Ar→Bool
 | [],_=>true
 | _,[]=>true
 | a::l,b::m=>if a.ref==b.ref then xV l m else false
def xW (l:List Pm) (m:List Ar):Bool:=if(l.length:Int)==(m.length:Int)then xV l m else false
def Sm.gV (p:Pg) (v:Sm):Bool:=v.kind==4 && match p.find v.proc with | none=>false | some q=>xW q.params v.args
theorem QS {l:List Pm} {m:List Ar} (hl:l.length<1000000000) (hm:m.length<1000000000) (s:St):aI Try.prog qj [.slice .shared 2 (l.map fz), .slice .shared 6 (m.map dh)] s (.bool (xW l m)) s:=by
 refine aI.pure ?_ (by simp [D.bI,D.ok,Tag.ok,Sx,A0]) rfl s
 generalize h:xW l m=q
 simp only [xW]at h
 unfold S0
 have b0:((l.length:Int) != (m.length:Int)) = !((l.length:Int)==(m.length:Int)):=rfl
 rcases Bool.eq_false_or_eq_true ((l.length:Int)==(m.length:Int))with b1 | b1
 case inr=>
  rw [b1]at b0
  simp only [b1,Bool.false_eq_true,if_false]at h
  subst h
  refine aI.go sk rfl fun B Q hB hQ=> ?_
  have⟨hD,hJ,hP,hZ⟩:=b7
  repeat' (first
 | simp only [go_sem,hD,hJ,hP,hZ,b0,Bool.not_false]
 | (with_reducible refine aJ hQ ?_;simp only [az,aB,Option.some.injEq,exists_eq_left',go_sem,hD,hJ,hP,hZ];repeat' (first | exact Ok.out | with_reducible refine aR ?_ ?_ | (simp;done))))
 rw [b1]at b0
 simp only [b1,if_true]at h
 have hlm:l.length=m.length:=by have:=eq_of_beq b1;omega
 refine aI.go sk rfl fun B Q hB hQ=> ?_
 have⟨hD,hJ,hP,hZ⟩:=b7
 repeat' (first
 | simp only [go_sem,hD,hJ,hP,hZ,b0,Bool.not_true]
 | (with_reducible refine aJ hQ ?_;simp only [az,aB,Option.some.injEq,exists_eq_left',go_sem,hD,hJ,hP,hZ];repeat' (first | exact Ok.out | with_reducible refine aR ?_ ?_ | (simp;done))))
 refine dG 0 0 (bq.ind (ι:=List Pm×List Ar×Nat) (fun i=>l.drop i.2.2=i.1∧m.drop i.2.2=i.2.1∧xV i.1 i.2.1=q) (fun i=>i.1.length)
  (fun i=> [(1, .slice .shared 6 (m.map dh)),(12, .slice .shared 2 (l.map fz)),(13, .int .i64 (l.length:Int)),(14, .int .i64 (i.2.2:Int))]) (fun i=>⟨[],[]⟩) ?_ (l,m,0) ⟨rfl,rfl,h⟩)
 rintro⟨r1,r2,k⟩ ⟨h1,h2,h⟩ IH
 dsimp only at h1 h2 h
 cases r1 with
 | nil=>
  have hD:=drop_nil h1
  simp only [xV]at h
  subst h
  repeat' (first
 | simp only [go_sem,hD,hJ,hP,hZ]
 | (with_reducible refine aJ hQ ?_;simp only [az,aB,Option.some.injEq,exists_eq_left',go_sem,hD,hJ,hP,hZ];repeat' (first | exact Ok.out | with_reducible refine aR ?_ ?_ | (simp;done))))
 | cons a r1=>
  obtain⟨hJ,g2,hD,g4⟩:=drop_cons h1
  cases r2 with
  | nil=>have:=List.drop_eq_nil_iff.1 h2;omega
  | cons b r2=>
   obtain⟨MU,b2,Gj,_⟩:=drop_cons h2
   have bE:k<4611686018427387904:=by omega
   simp only [xV]at h
   have w1:(true==true)=true:=rfl
   have w2:(false==false)=true:=rfl
   have w3:(true==false)=false:=rfl
   have w4:(false==true)=false:=rfl
   have v1:(true != true)=false:=rfl
   have v2:(false != false)=false:=rfl
   have v3:(true != false)=true:=rfl
   have v4:(false != true)=true:=rfl
   rcases Bool.eq_false_or_eq_true a.ref with ea | ea
   ·rcases Bool.eq_false_or_eq_true b.ref with eb | eb
    ·simp only [ea,eb,w1,w2,if_true]at h
     repeat' (first
 | simp only [go_sem,hD,hJ,hP,hZ,MU,Gj,ea,eb,w1,w2,v1,v2]
 | (with_reducible refine aJ hQ ?_;simp only [az,aB,Option.some.injEq,exists_eq_left',go_sem,hD,hJ,hP,hZ];repeat' (first | exact Ok.out | with_reducible refine aR ?_ ?_ | (simp;done))))
     refine dt 0 0 ?_ ?_ (IH (r1,r2,k+1) ⟨g2,b2,h⟩ (Nat.lt_succ_self _))
     ·(simp only [go_sem,hD,hJ,hP,hZ,aF bE];try exact br)
     ·(simp only [go_sem,hD,hJ,hP,hZ,aF bE];try exact br)
    ·simp only [ea,eb,w3,w4,Bool.false_eq_true,if_false]at h
     subst h
     repeat' (first
 | simp only [go_sem,hD,hJ,hP,hZ,MU,Gj,ea,eb,w3,w4,v3,v4]
 | (with_reducible refine aJ hQ ?_;simp only [az,aB,Option.some.injEq,exists_eq_left',go_sem,hD,hJ,hP,hZ];repeat' (first | exact Ok.out | with_reducible refine aR ?_ ?_ | (simp;done))))
   ·rcases Bool.eq_false_or_eq_true b.ref with eb | eb
    ·simp only [ea,eb,w3,w4,Bool.false_eq_true,if_false]at h
     subst h
     repeat' (first
 | simp only [go_sem,hD,hJ,hP,hZ,MU,Gj,ea,eb,w3,w4,v3,v4]
 | (with_reducible refine aJ hQ ?_;simp only [az,aB,Option.some.injEq,exists_eq_left',go_sem,hD,hJ,hP,hZ];repeat' (first | exact Ok.out | with_reducible refine aR ?_ ?_ | (simp;done))))
    ·simp only [ea,eb,w1,w2,if_true]at h
     repeat' (first
 | simp only [go_sem,hD,hJ,hP,hZ,MU,Gj,ea,eb,w1,w2,v1,v2]
 | (with_reducible refine aJ hQ ?_;simp only [az,aB,Option.some.injEq,exists_eq_left',go_sem,hD,hJ,hP,hZ];repeat' (first | exact Ok.out | with_reducible refine aR ?_ ?_ | (simp;done))))
     refine dt 0 0 ?_ ?_ (IH (r1,r2,k+1) ⟨g2,b2,h⟩ (Nat.lt_succ_self _))
     ·(simp only [go_sem,hD,hJ,hP,hZ,aF bE];try exact br)
     ·(simp only [go_sem,hD,hJ,hP,hZ,aF bE];try exact br)
end Go.Abs

/-! Ar2 -/

namespace Go.Abs
set_option maxRecDepth 8000
open Go.Proofs
theorem IS {p:Pg} {v:Sm} (h:p.jy) (hv:v.kP) (s:St):aI Try.prog nk [.agg (bP p), .agg (a7 v)] s (.bool (v.gV p)) s:=by
 refine aI.pure ?_ (by simp [D.bI,D.ok,iU,kq]) rfl s
 obtain⟨sa,qW,sr⟩:=h.procs
 have tu:v.args.length<1000000000:=by have:=Ar.cH v.args;have:=hv.2.2;omega
 generalize hR:v.gV p=R
 simp only [Sm.gV]at hR
 unfold S0
 have b0:(v.kind != 4) = !(v.kind==4):=rfl
 rcases Bool.eq_false_or_eq_true (v.kind==4)with b1 | b1
 case inr=>
  rw [b1]at b0
  simp only [b1,Bool.false_and]at hR
  subst hR
  refine aI.go sg rfl fun B Q hB hQ=> ?_
  have⟨hD,hJ,hP,hZ⟩:=b7
  repeat' (first
 | simp only [go_sem,hD,hJ,hP,hZ,b0,Bool.not_false]
 | (with_reducible refine aJ hQ ?_;simp only [az,aB,Option.some.injEq,exists_eq_left',go_sem,hD,hJ,hP,hZ];repeat' (first | exact Ok.out | with_reducible refine aR ?_ ?_ | (simp;done))))
 rw [b1]at b0
 simp only [b1,Bool.true_and,Pg.find]at hR
 refine aI.go sg rfl fun B Q hB hQ=> ?_
 have⟨hD,hJ,hP,hZ⟩:=b7
 repeat' (first
 | simp only [go_sem,hD,hJ,hP,hZ,b0,Bool.not_true]
 | (with_reducible refine aJ hQ ?_;simp only [az,aB,Option.some.injEq,exists_eq_left',go_sem,hD,hJ,hP,hZ];repeat' (first | exact Ok.out | with_reducible refine aR ?_ ?_ | (simp;done))))
 refine dG 2 0 (bq.ind (ι:=List Pc×Nat) (fun i=>p.procs.drop i.2=i.1∧(match gu v.proc i.1 with | none=>false | some q=>xW q.params v.args)=R) (fun i=>i.1.length)
  (fun i=> [(3, .ptr 1 0),(11, .slice .shared 5 (p.procs.map bT)),(12, .int .i64 (p.procs.length:Int)),(13, .int .i64 (i.2:Int))]) (fun i=>⟨[bP p,a7 v],[]⟩) ?_ (p.procs,0) ⟨rfl,hR⟩)
 clear hR
 rintro⟨rest,k⟩ ⟨h1,hR⟩ IH
 dsimp only at h1 hR
 cases rest with
 | nil=>
  have hD:=drop_nil h1
  simp only [gu]at hR
  subst hR
  repeat' (first
 | simp only [go_sem,hD,hJ,hP,hZ]
 | (with_reducible refine aJ hQ ?_;simp only [az,aB,Option.some.injEq,exists_eq_left',go_sem,hD,hJ,hP,hZ];repeat' (first | exact Ok.out | with_reducible refine aR ?_ ?_ | (simp;done))))
 | cons a rest=>
  obtain⟨hJ,g2,hD,g4⟩:=drop_cons h1
  have bE:k<4611686018427387904:=by omega
  have zS:=h.small (List.mem_of_getElem? hJ)
  have MR:=fun s=>QS (l:=a.params) (m:=v.args) (by have:=zS.par;omega) tu s
  simp only [gu]at hR
  rcases Bool.eq_false_or_eq_true (a.name==v.proc)with c1 | c1
  ·simp only [c1,if_true]at hR
   subst hR
   repeat' (first
 | simp only [go_sem,hD,hJ,hP,hZ,c1]
 | (with_reducible refine CU (MR _) ?_)
 | (with_reducible refine aJ hQ ?_;simp only [az,aB,Option.some.injEq,exists_eq_left',go_sem,hD,hJ,hP,hZ];repeat' (first | exact Ok.out | with_reducible refine aR ?_ ?_ | (simp;done))))
  ·simp only [c1,Bool.false_eq_true,if_false]at hR
   repeat' (first
 | simp only [go_sem,hD,hJ,hP,hZ,c1]
 | (with_reducible refine aJ hQ ?_;simp only [az,aB,Option.some.injEq,exists_eq_left',go_sem,hD,hJ,hP,hZ];repeat' (first | exact Ok.out | with_reducible refine aR ?_ ?_ | (simp;done))))
   refine dt 2 0 ?_ ?_ (IH (rest,k+1) ⟨g2,hR⟩ (Nat.lt_succ_self _))
   ·(simp only [go_sem,hD,hJ,hP,hZ,aF bE];try exact br)
   ·(simp only [go_sem,hD,hJ,hP,hZ,aF bE];try exact br)
theorem Og {p:Pg} {v:Sm} (h:p.jy) (hv:v.kP) (s:St):aI Try.prog qi [.agg (bP p), .agg (a7 v)] s (.bool (p.scope.1==0 && v.gV p)) s:=by
 refine aI.pure ?_ (by simp [D.bI,D.ok,iU,kq]) rfl s
 have oI:=fun s=>wN h s
 have zU:=fun s=>IS h hv s
 unfold S0
 rcases Bool.eq_false_or_eq_true (p.scope.1==0)with b1 | b1
 all_goals
  simp only [b1,Bool.true_and,Bool.false_and]
  refine aI.go yK rfl fun B Q hB hQ=> ?_
  have⟨hD,hJ,hP,hZ⟩:=b7
  repeat' (first
 | simp only [go_sem,hD,hJ,hP,hZ,b1]
 | (with_reducible refine CU (oI _) ?_)
 | (with_reducible refine CU (zU _) ?_)
 | (with_reducible refine aJ hQ ?_;simp only [az,aB,Option.some.injEq,exists_eq_left',go_sem,hD,hJ,hP,hZ];repeat' (first | exact Ok.out | with_reducible refine aR ?_ ?_ | (simp;done))))
def xX (p:Pg):List Sm→Option Sm
 | []=>none
 | v::l=>if v.kind==4 && !(v.gV p)then some v else xX p l
def mj (c:Int):Option Sm→Int×Int
 | some v=>(c,v.id)
 | none=>(0,0)
def Pg.arity (p:Pg):Int×Int:=if p.scope.1==0 then mj 6 (xX p p.pre)else(1,0)
theorem Pg.jy.pre {p:Pg} (h:p.jy) : ∀ v∈p.pre,v.kP:=fun v m=>by
 simp only [Pg.pre,List.mem_flatten,List.mem_map]at m
 obtain⟨l,⟨f,hf,rfl⟩,m⟩:=m
 exact h.said hf v m
theorem wP {p:Pg} (h:p.jy) (s:St):aI Try.prog kM [.agg (bP p)] s (.agg [.int .i64 p.arity.1, .int .i64 p.arity.2]) s:=by
 refine aI.pure ?_ (by simp [D.bI,D.ok,iU]) rfl s
 obtain⟨sa,qW,sr⟩:=h.procs
 have oI:=fun s=>wN h s
 have de:=fun s=>A3 (p:=p) (by omega) s
 have hL:=(mN p).1
 have MV:=mO p
 generalize hR:p.arity=R
 simp only [Pg.arity]at hR
 unfold S0
 have b0:(p.scope.1 != 0) = !(p.scope.1==0):=rfl
 rcases Bool.eq_false_or_eq_true (p.scope.1==0)with b1 | b1
 case inr=>
  rw [b1]at b0
  simp only [b1,Bool.false_eq_true,if_false]at hR
  subst hR
  refine aI.go qQ rfl fun B Q hB hQ=> ?_
  have⟨hD,hJ,hP,hZ⟩:=b7
  repeat' (first
 | simp only [go_sem,hD,hJ,hP,hZ,b0,Bool.not_false]
 | (with_reducible refine CU (oI _) ?_)
 | (with_reducible refine aJ hQ ?_;simp only [az,aB,Option.some.injEq,exists_eq_left',go_sem,hD,hJ,hP,hZ];repeat' (first | exact Ok.out | with_reducible refine aR ?_ ?_ | (simp;done))))
 rw [b1]at b0
 simp only [b1,if_true, ← hL]at hR
 refine aI.go qQ rfl fun B Q hB hQ=> ?_
 have⟨hD,hJ,hP,hZ⟩:=b7
 repeat' (first
 | simp only [go_sem,hD,hJ,hP,hZ,b0,Bool.not_true,sS]
 | (with_reducible refine CU (oI _) ?_)
 | (with_reducible refine CU (de _) ?_)
 | (with_reducible refine aJ hQ ?_;simp only [az,aB,Option.some.injEq,exists_eq_left',go_sem,hD,hJ,hP,hZ];repeat' (first | exact Ok.out | with_reducible refine aR ?_ ?_ | (simp;done))))
 refine dG 2 0 (bq.ind (ι:=List Im×Nat) (fun i=>p.ef.L.drop i.2=i.1∧mj 6 (xX p (i.1.map Im.s))=R) (fun i=>i.1.length)
  (fun i=> [(1, .ptr 0 0),(2, .ptr 1 0),(14, .slice .shared 17 (p.ef.L.map ey)),(15, .int .i64 (p.ef.L.length:Int)),(16, .int .i64 (i.2:Int))]) (fun i=>⟨[bP p,[.int .i64 0, .int .i64 0]],[]⟩) ?_ (p.ef.L,0) ⟨rfl,hR⟩)
 clear hR
 rintro⟨rest,k⟩ ⟨h1,hR⟩ IH
 dsimp only at h1 hR
 cases rest with
 | nil=>
  have hD:=drop_nil h1
  simp only [List.map_nil,xX,mj]at hR
  subst hR
  repeat' (first
 | simp only [go_sem,hD,hJ,hP,hZ]
 | (with_reducible refine aJ hQ ?_;simp only [az,aB,Option.some.injEq,exists_eq_left',go_sem,hD,hJ,hP,hZ];repeat' (first | exact Ok.out | with_reducible refine aR ?_ ?_ | (simp;done))))
 | cons a rest=>
  obtain⟨hJ,g2,hD,g4⟩:=drop_cons h1
  have bE:k<4611686018427387904:=by omega
  have v8:a.s∈p.pre:=by rw [← hL];exact List.mem_map_of_mem (List.mem_of_getElem? hJ)
  have zU:=fun s=>IS h (h.pre _ v8) s
  simp only [List.map_cons,xX]at hR
  rcases Bool.eq_false_or_eq_true (a.s.kind==4)with c1 | c1
  ·rcases Bool.eq_false_or_eq_true (a.s.gV p)with c2 | c2
   ·simp only [c1,c2,Bool.not_true,Bool.and_false,Bool.false_eq_true,if_false]at hR
    repeat' (first
 | simp only [go_sem,hD,hJ,hP,hZ,c1,c2]
 | (with_reducible refine CU (zU _) ?_)
 | (with_reducible refine aJ hQ ?_;simp only [az,aB,Option.some.injEq,exists_eq_left',go_sem,hD,hJ,hP,hZ];repeat' (first | exact Ok.out | with_reducible refine aR ?_ ?_ | (simp;done))))
    refine dt 2 0 ?_ ?_ (IH (rest,k+1) ⟨g2,hR⟩ (Nat.lt_succ_self _))
    ·(simp only [go_sem,hD,hJ,hP,hZ,aF bE];try exact br)
    ·(simp only [go_sem,hD,hJ,hP,hZ,aF bE];try exact br)
   ·simp only [c1,c2,Bool.not_false,Bool.and_true,if_true,mj]at hR
    subst hR
    repeat' (first
 | simp only [go_sem,hD,hJ,hP,hZ,c1,c2]
 | (with_reducible refine CU (zU _) ?_)
 | (with_reducible refine aJ hQ ?_;simp only [az,aB,Option.some.injEq,exists_eq_left',go_sem,hD,hJ,hP,hZ];repeat' (first | exact Ok.out | with_reducible refine aR ?_ ?_ | (simp;done))))
  ·simp only [c1,Bool.false_and,Bool.false_eq_true,if_false]at hR
   repeat' (first
 | simp only [go_sem,hD,hJ,hP,hZ,c1]
 | (with_reducible refine CU (zU _) ?_)
 | (with_reducible refine aJ hQ ?_;simp only [az,aB,Option.some.injEq,exists_eq_left',go_sem,hD,hJ,hP,hZ];repeat' (first | exact Ok.out | with_reducible refine aR ?_ ?_ | (simp;done))))
   refine dt 2 0 ?_ ?_ (IH (rest,k+1) ⟨g2,hR⟩ (Nat.lt_succ_self _))
   ·(simp only [go_sem,hD,hJ,hP,hZ,aF bE];try exact br)
   ·(simp only [go_sem,hD,hJ,hP,hZ,aF bE];try exact br)
end Go.Abs

/-! Ar3 -/

namespace Go.Abs
open Go.Proofs
theorem oY {p:Pg} (h:(p.scope.1==0)=true):p.may=true:=by
 unfold Pg.scope at h
 split at h
 ·assumption
 ·cases h
end Go.Abs

/-! Srt1 -/

namespace Go.Abs
open Go.Proofs
def kb (out:List aD):List aD→aD→Bool→aD×Bool
 | [],c,a=>(c,a)
 | s::l,c,a=>if !(dY out s) && (!a || bytesLess s c)then kb out l s true else kb out l c a
def IT (l out:List aD):List aD:=if(kb out l [] false).2 then out++ [(kb out l [] false).1]else out
def lR (l:List aD):Nat→List aD→List aD
 | 0,out=>out
 | n+1,out=>lR l n (IT l out)
def gv (l:List aD):List aD:=lR l l.length []
end Go.Abs

/-! Shelf -/

namespace Go.Proofs
open Go.Shelf
def Try.Du:Go.Shelf.Ren:=⟨fun | 190=>44 | 125=>69 | 258=>68 | 128=>90 | 129=>91 | 302=>81 | 303=>82 | 304=>83 | 305=>84 | 306=>85 | 307=>86 | 308=>87 | 309=>88 | 310=>89 | 333=>98 | 329=>99 | 330=>100 | 334=>101 | 335=>102 | 336=>103 | 344=>106 | n=>n,fun | 31=>22 | 9=>9 | 3=>3 | 46=>110 | 0=>0 | 51=>129 | 53=>131 | 4=>4 | 183=>121 | 182=>120 | 131=>126 | 5=>5 | 218=>137 | 222=>141 | 228=>144 | 229=>145 | n=>n,fun | n=>n⟩
theorem Try.D3:Go.Proofs.Lays.n190 Try.prog Try.Du:= {
 mixed:=by kernel_rfl
 f125:=Try.func69.trans (congrArg some (by kernel_rfl))
 f128:=Try.func90.trans (congrArg some (by kernel_rfl))
 f129:=Try.func91.trans (congrArg some (by kernel_rfl))
 f190:=Try.func44.trans (congrArg some (by kernel_rfl))
 f258:=Try.func68.trans (congrArg some (by kernel_rfl))
 f302:=Try.func81.trans (congrArg some (by kernel_rfl))
 f303:=Try.func82.trans (congrArg some (by kernel_rfl))
 f304:=Try.func83.trans (congrArg some (by kernel_rfl))
 f305:=Try.func84.trans (congrArg some (by kernel_rfl))
 f306:=Try.func85.trans (congrArg some (by kernel_rfl))
 f307:=Try.func86.trans (congrArg some (by kernel_rfl))
 f308:=Try.func87.trans (congrArg some (by kernel_rfl))
 f309:=Try.func88.trans (congrArg some (by kernel_rfl))
 f310:=Try.func89.trans (congrArg some (by kernel_rfl))
 f329:=Try.func99.trans (congrArg some (by kernel_rfl))
 f330:=Try.func100.trans (congrArg some (by kernel_rfl))
 f333:=Try.func98.trans (congrArg some (by kernel_rfl))
 f334:=Try.func101.trans (congrArg some (by kernel_rfl))
 f335:=Try.func102.trans (congrArg some (by kernel_rfl))
 f336:=Try.func103.trans (congrArg some (by kernel_rfl))
 f344:=Try.func106.trans (congrArg some (by kernel_rfl))
 t0:=Try.underlying0
 a0:=Try.isAgg0
 z0:=Try.sizeOf0
 v0:=Try.zeroValue0
 t3:=Try.underlying3
 a3:=Try.isAgg3
 z3:=Try.sizeOf3
 v3:=Try.zeroValue3
 t4:=Try.underlying4
 a4:=Try.isAgg4
 z4:=Try.sizeOf4
 v4:=Try.zeroValue4
 t5:=Try.underlying5
 a5:=Try.isAgg5
 z5:=Try.sizeOf5
 v5:=Try.zeroValue5
 t9:=Try.underlying9
 a9:=Try.isAgg9
 z9:=Try.sizeOf9
 v9:=Try.zeroValue9
 t31:=Try.underlying22
 a31:=Try.isAgg22
 z31:=Try.sizeOf22
 v31:=Try.zeroValue22
 t46:=Try.underlying110
 a46:=Try.isAgg110
 z46:=Try.sizeOf110
 v46:=Try.zeroValue110
 t51:=Try.underlying129
 a51:=Try.isAgg129
 z51:=Try.sizeOf129
 v51:=Try.zeroValue129
 t53:=Try.underlying131
 a53:=Try.isAgg131
 z53:=Try.sizeOf131
 v53:=Try.zeroValue131
 t131:=Try.underlying126
 a131:=Try.isAgg126
 z131:=Try.sizeOf126
 v131:=Try.zeroValue126
 t182:=Try.underlying120
 a182:=Try.isAgg120
 z182:=Try.sizeOf120
 v182:=Try.zeroValue120
 t183:=Try.underlying121
 a183:=Try.isAgg121
 z183:=Try.sizeOf121
 v183:=Try.zeroValue121
 t218:=Try.underlying137
 a218:=Try.isAgg137
 z218:=Try.sizeOf137
 v218:=Try.zeroValue137
 t222:=Try.underlying141
 a222:=Try.isAgg141
 z222:=Try.sizeOf141
 v222:=Try.zeroValue141
 t228:=Try.underlying144
 a228:=Try.isAgg144
 z228:=Try.sizeOf144
 v228:=Try.zeroValue144
 t229:=Try.underlying145
 a229:=Try.isAgg145
 z229:=Try.sizeOf145
 v229:=Try.zeroValue145}
open Go.Sort Go.RowKit in
theorem Try.slices_Sort_string (uY off cap:Nat) (ss:List (List UInt8)) (w:World) (hH:Holds encStr w uY off ss.toArray) (Wj:uY<w.heap.size) (dC:ss.length<4611686018427387904) :
 Calls Try.prog 44 #[.slice (some ⟨uY,off,none⟩) ss.length cap] w fun e w'=>
  e = .returned (.tuple #[])∧∃ n os,w'=grow (putRow encStr (Sort.ahead w n) uY off (ss.mergeSort fun x y=>decide (x≤y)).toArray) os:=Any.slices_Sort_string Try.D3 uY off cap ss w hH Wj dC
def Try.Dv:Go.Shelf.Ren:=⟨fun | 194=>45 | n=>n,fun | 31=>22 | 9=>9 | 3=>3 | 4=>4 | 0=>0 | n=>n,fun | n=>n⟩
theorem Try.D4:Go.Proofs.Lays.n194 Try.prog Try.Dv:= {
 mixed:=by kernel_rfl
 f194:=Try.func45.trans (congrArg some (by kernel_rfl))
 t0:=Try.underlying0
 a0:=Try.isAgg0
 z0:=Try.sizeOf0
 v0:=Try.zeroValue0
 t3:=Try.underlying3
 a3:=Try.isAgg3
 z3:=Try.sizeOf3
 v3:=Try.zeroValue3
 t4:=Try.underlying4
 a4:=Try.isAgg4
 z4:=Try.sizeOf4
 v4:=Try.zeroValue4
 t9:=Try.underlying9
 a9:=Try.isAgg9
 z9:=Try.sizeOf9
 v9:=Try.zeroValue9
 t31:=Try.underlying22
 a31:=Try.isAgg22
 z31:=Try.sizeOf22
 v31:=Try.zeroValue22}
open Go.RowKit Go.Lib Go.Sort in
theorem Try.slices_Compact_string (uY off cap:Nat) (zs:List (List UInt8)) (w:World) (hH:Holds encStr w uY off zs.toArray) (dC:zs.length≤9223372036854775807) (o6:zs.length≤cap) :
 Calls Try.prog 45 #[.slice (some ⟨uY,off,none⟩) zs.length cap] w fun e w'=>e = .returned (.slice (some ⟨uY,off,none⟩) (Lib.compact zs).length cap)∧∃ q,w'=putRow encStr (Sort.ahead w q) uY off (Lib.compact zs++List.replicate (zs.length - (Lib.compact zs).length) []).toArray:=Any.slices_Compact_string Try.D4 uY off cap zs w hH dC o6
open Go.RowKit Go.Lib Go.Sort in
theorem Try.slices_Compact_string_empty (a:Option Addr) (cap:Nat) (w:World) :
 Calls Try.prog 45 #[.slice a 0 cap] w fun e w'=>e = .returned (.slice a 0 cap)∧w'=w:=Any.slices_Compact_string_empty Try.D4 a cap w
open Go.RowKit Go.Sort in
theorem Try.slices_Sort_string_none (p:Option Addr) (cap:Nat) (w:World) :
 Calls Try.prog 44 #[.slice p 0 cap] w fun e w'=>e = .returned (.tuple #[])∧w'=w:=Any.slices_Sort_string_none Try.D3 p cap w
end Go.Proofs

/-! SortR -/

namespace Go.Abs
open Go.Proofs
section
variable {P:Program} {B:fw} {nt:Nat}
theorem Oh {x:Operand} {t:Nat} (h:cX x=some (.s t)):x = .tmp t:=by
 unfold cX at h
 split at h
 ·cases h;rfl
 ·obtain⟨d,_,h⟩:=map_some h;cases h
 ·cases h
 ·cases h
theorem Gk {ops:Array Oper} {o:Oper} {g g':Option (Nat×Bool)} {dst:Option Nat} {f:Nat} {xs:List X} (h:om P ops o g=some (.call dst g' f xs)) :
 g'=g∧∃ args kG,o.op = .call ⟨.value (.func f),args,kG⟩∧enters P f=true∧rV args.toList=some xs:=by
 unfold om at h
 split at h
 ·rename_i f' args kG jL
  split at h
  ·rename_i he
   obtain⟨xs',h1,h2⟩:=map_some h
   cases h2
   exact⟨rfl,args,kG,jL,he,h1⟩
  ·cases h
 ·obtain⟨_,_,h⟩:=map_some h;cases h
 ·split at h
  ·cases h
  ·split at h <;> cases h
theorem IU {ops:Array Oper} {o:Oper} {tmps:Array Value} (hg:p9 ops o.guard=some none):Region.wanted o (yielded ops tmps)=true:=by
 have:o.guard=none:=by
  cases zl:o.guard with
  | none=>rfl
  | some p=>
   obtain⟨j,b⟩:=p
   rw [zl]at hg
   unfold p9 at hg
   simp only at hg
   split at hg <;> cases hg
 simp [Region.wanted,this]
theorem Sem.QU {a k b f:Nat} {is:List AI} {Q:Exit→Tm→St→Prop} {tm:Tm} {s:St}
 (S1 : ∀ act w,Holds B nt (tm.put (some a) (tm.get k)) s act w→Calls P f #[act.tmps.getD a Go.undef] w fun e w'=>∃ v,e = .returned v∧∃ bm s',Holds B nt bm s' (act.put (some b) v) w'∧fM P is (Q .normal) bm s') :
 Sem P B nt (.run (.op (some a) none (.mv (.s k)):: .call (some b) none f [.s a]::is)) Q tm s:=by
 intro c hc act w hh
 obtain⟨id,ops,rfl,hi⟩:=jr hc
 refine wp_region ?_
 have key : ∀ (l:List Nat) (ol:List Oper),l.map (ops[·]?)=ol.map some→mW P nt ops ol=some (.op (some a) none (.mv (.s k)):: .call (some b) none f [.s a]::is)→wpOps P ops (lY B nt Q) l act w:=by
  intro l ol hl rq
  match ol,l,hl with
  | [],_,_=>simp [mW]at rq
  | o0::ol,[],hl=>simp at hl
  | o0::ol,j0::l,hl=>
   simp only [List.map_cons,List.cons.injEq]at hl
   obtain⟨hj0,hl⟩:=hl
   unfold mW at rq
   split at rq
   ·rename_i i0 is0 h1 h2
    cases rq
    match ol,l,hl,h2 with
    | [],_,_,h2=>simp [mW]at h2
    | o1::ol,[],hl,_=>simp at hl
    | o1::ol,j1::l,hl,h2=>
     simp only [List.map_cons,List.cons.injEq]at hl
     obtain⟨hj1,hl⟩:=hl
     unfold mW at h2
     split at h2
     ·rename_i i1 is1 h3 h4
      cases h2
      obtain⟨M,e,r,ht,hn,hd⟩:=hh
      have zH:=oM h1
      have MW:=oM h3
      simp only [AI.dst]at zH MW
      refine rp (K':=fun bm s'=>bm=tm.put (some a) (tm.get k)∧s'=s) hj0 h1 r (B.laid.ext e) ht (by simp only [fM,guarded,aK,X.ev,and_self]) (fun d v s1 w1 M1 hk e1 r1 hv=> ?_)
      obtain⟨vO,rfl⟩:=hk
      have hH:=Holds.put e ht hn hd (sb h1) e1 r1 hv
      simp only [AI.dst]at vO
      rw [← zH]at hH ⊢
      rw [vO]at hH
      obtain⟨g,hg,_,hb⟩:=uz h3
      obtain⟨rfl,args,kG,jL,sK,k8⟩:=Gk hb
      simp only [wpOps,hj1,IU hg,if_true]
      left
      have Wl:args.map (act.put (some a) v).eval = #[(act.put (some a) v).tmps.getD a Go.undef]:=by
       have:args.toList = [.tmp a]:=by
        match hA:args.toList with
        | []=>rw [hA]at k8;simp [rV]at k8
        | [x]=>
         rw [hA]at k8
         simp only [rV]at k8
         split at k8
         ·rename_i x' r' hx hr
          cases k8
          rw [Oh hx]
         ·cases k8
        | x::y::z=>
         rw [hA]at k8
         simp only [rV]at k8
         split at k8
         ·rename_i x' r' hx hr
          cases k8
          split at hr
          ·cases hr
          ·cases hr
         ·cases k8
       have:args = #[.tmp a]:=by rw [← Array.toArray_toList (xs:=args),this]
       rw [this]
       simp only [List.map_toArray,List.map_cons,List.map_nil]
       rfl
      have hex:(execOp (act.put (some a) v).eval o1).run P w1 = .ok (.enter f #[(act.put (some a) v).tmps.getD a Go.undef]) w1:=by
       obtain⟨dst,op,type,pos,after,guard⟩:=o1
       simp only at jL
       subst jL
       rw [← Wl]
       exact rj (act.put (some a) v).eval dst f args kG type pos after guard rfl sK w1
      unfold Oper.wp
      rw [hex,Oper.upon_enter]
      refine(S1 _ _ hH).mono ?_
      rintro en w' ⟨v',rfl,bm,s',hH',hvc⟩
      rw [← MW]
      exact uu (Q:=Q) l ol _ hl h4 bm s' _ w' hvc hH'
     ·cases h2
   ·cases rq
 exact key _ _ (uv ops) hi
theorem zV (hB:B.s = ⟨[],[]⟩) {tm:Tm} {s:St} {act:Act} {w:World} (h:Holds B nt tm s act w) {t:Nat} {l:List aD} (ht:s.aw[t]? = some (some l.length)) {k0:Nat} (QI:tm.get k0 = .slice (.tok t) 1 (l.map encStr)) :
 (l = []∧∀ k,tm.get k = .slice (.tok t) 1 (l.map encStr)→(act.tmps.getD k Go.undef = .slice none 0 0∨∃ b q,act.tmps.getD k Go.undef = .slice (some ⟨b,q,none⟩) 0 0))∨
 ∃ (b cap:Nat) (vs:Array Value) (T:TypeId),(∀ k,tm.get k = .slice (.tok t) 1 (l.map encStr)→act.tmps.getD k Go.undef = .slice (some ⟨b,0,none⟩) l.length cap)∧l.length≤cap∧w.heap[b]? = some (.cells vs T (0,0))∧vs.size=cap∧B.w.heap.size≤b∧
  ∀ j (hj:j<l.length),vs[j]? = some (.string ⟨⟨l[j]⟩⟩):=by
 obtain⟨M,e,r,hr,_,_⟩:=h
 rcases r.tok t _ ht with ⟨h3,h4⟩ | ⟨b,cap,z,vs,T,h3,h4,h5,h6,h7⟩
 ·have hl:l = []:=List.eq_nil_of_length_eq_zero h4
  subst hl
  refine .inl ⟨rfl,fun k hk=> ?_⟩
  have hv:=hr k
  rw [hk]at hv
  generalize act.tmps.getD k Go.undef=v at hv
  cases hv with
  | gA _ _ cap hc lW=>subst hc;exact .inl rfl
  | slice _ _ _ b q cap hl hs h1 h2 lW=>
   rcases(lW.2 _ ht).2 rfl with ⟨_,h0,_⟩ | ⟨b',_,ic⟩
   ·subst h0;exact .inr ⟨b,q,rfl⟩
   ·rw [h3]at ic;cases ic
 ·right
  have each : ∀ k,tm.get k = .slice (.tok t) 1 (l.map encStr)→z=1∧act.tmps.getD k Go.undef = .slice (some ⟨b,0,none⟩) l.length cap∧l.length≤cap∧∀ j (hj:j<l.length),∃ u,M.G b j=some u∧RD M s (.str l[j]) u:=by
   intro k hk
   have hv:=hr k
   rw [hk]at hv
   generalize act.tmps.getD k Go.undef=v at hv
   generalize iX:l.map encStr=rows at hv
   cases hv with
   | gA _ _ cap hc lW=>
    have hl:l = []:=by cases l <;> simp at iX;rfl
    subst hl
    rcases(lW.2 _ ht).2 rfl with ⟨h0,_⟩ | ⟨b',h0,_⟩
    ·rw [h3]at h0;cases h0
    ·cases h0
   | slice _ _ _ b2 q aeb hl hs h1 h2 lW=>
    subst iX
    rw [List.length_map]at hl lW
    rcases(lW.2 _ ht).2 rfl with ⟨h0,_⟩ | ⟨b',hb,ic⟩
    ·rw [h3]at h0;cases h0
    ·cases hb
     rw [h3]at ic
     cases ic
     refine⟨rfl,by rw [List.length_map],hl,fun j hj=> ?_⟩
     have e1:(l.map encStr)[j]? = some [.str l[j]]:=by rw [List.getElem?_map,List.getElem?_eq_getElem hj];rfl
     obtain⟨u,hu⟩:=h1 j _ 0 _ e1 rfl
     refine⟨u,by simpa using hu,h2 j _ 0 _ u e1 rfl hu⟩
  obtain⟨rfl,_,o6,jq⟩:=each k0 QI
  have de:B.w.heap.size≤b:=by
   rcases e.mU t b cap 1 ⟨_,ht⟩ h3 with ⟨⟨n,hn⟩,_⟩ | h
   ·rw [hB]at hn;simp at hn
   ·exact h
  refine⟨b,cap,vs,T,fun k hk=>(each k hk).2.1,o6,h4,by simpa [zs]using h5,de,fun j hj=> ?_⟩
  obtain⟨u,hu,mc⟩:=jq j hj
  have:=(r.comm _ _ _ hu).1
  rw [iC h4,mc.iK]at this
  exact this
theorem Cw (hB:B.s = ⟨[],[]⟩) {tm:Tm} {s:St} {act pz:Act} {w w':World} (h:Holds B nt tm s act w) {b cap:Nat} {vs:Array Value} {T:TypeId} (dC:vs.size=cap) (qT:B.w.heap.size≤b)
 (jn : ∀ q,q<B.w.heap.size→w'.heap[q]? = w.heap[q]?) (dj:w'.heap[b]? = some (.cells vs T (0,0))) (DG:w.heap.size≤w'.heap.size) (zv:w'.os=w.os) (xj:w'.tape=w.tape) (JE:w'.output=w.output)
 {l:List aD} (hl:l.length≤cap) (jq : ∀ j (hj:j<l.length),vs[j]? = some (.string ⟨⟨l[j]⟩⟩)) {k:Nat} (Gl:pz.tmps.getD k Go.undef = .slice (some ⟨b,0,none⟩) l.length cap) (hn:pz.tmps.size=nt) (hd:pz.defers = []) :
 Holds B nt [(k, .slice (.tok 0) 1 (l.map encStr))] ⟨[],[some l.length]⟩ pz w':=by
 obtain⟨M,e,r,hr,_,_⟩:=h
 let M':Map:=⟨fun q o=>if q=b then(if o<l.length then(l[o]?).map fun x=>Value.string ⟨⟨x⟩⟩else none)else B.M.G q o,B.M.loc,fun _=>some (b,cap,1)⟩
 have TW : ∀ q o v,B.M.G q o=some v→q<B.w.heap.size∧w'.cell? ⟨q,o,none⟩=some v∧v.oneCell'=true:=by
  intro q o v hq
  obtain⟨h1,h2⟩:=r.comm q o v (e.le.G q o v hq)
  have hD:=B.W6 q o v hq
  refine⟨hD, ?_,h2⟩
  rw [← h1]
  simp [World.cell?,jn q hD]
 have qC : ∀ j (hj:j<l.length),w'.cell? ⟨b,j,none⟩=some (.string ⟨⟨l[j]⟩⟩):=fun j hj=>by rw [iC dj];exact jq j hj
 have hJ : ∀ (j:Nat) v,(if j<l.length then(l[j]?).map fun x=>Value.string ⟨⟨x⟩⟩else none)=some v→∃ hj:j<l.length,v = .string ⟨⟨l[j]⟩⟩:=by
  intro j v hv
  split at hv
  ·rename_i hj
   rw [List.getElem?_eq_getElem hj]at hv
   exact⟨hj,by simpa using hv.symm⟩
  ·cases hv
 refine⟨M',⟨⟨fun q o v hq=> ?_,by simp [hB],fun o ho=>rfl,by rw [hB];exact Nat.zero_le _,fun t n' ht _=>by rw [hB]at ht;exact absurd ht (Nat.not_lt_zero _)⟩,fun q hq _ _=> ?_,fun o _ h2=>absurd h2 (Nat.not_lt_zero _),fun t q c z _ hb=> ?_,fun q o dP=> ?_,Nat.le_trans e.size DG,zv.trans e.os,xj.trans e.tape,JE.trans e.output⟩,
  ⟨fun q o v hq=> ?_,fun o ds ho=>by simp at ho,fun o ho=>absurd ho (Nat.not_lt_zero _),fun o o' ho=>absurd ho (Nat.not_lt_zero _),fun t n ht=> ?_,fun t q c z o _ _ ho=>absurd ho (Nat.not_lt_zero _),fun t t' q c z c' z' Iq k7 _ _=> ?_⟩,fun u=> ?_,hn,hd⟩
 ·show(if q=b then _ else B.M.G q o)=some v
  rw [if_neg (by have:=(TW q o v hq).1;omega)]
  exact hq
 ·rw [jn q hq]
  exact e.kept q hq (fun o ho=>by rw [hB]at ho;exact absurd ho (Nat.not_lt_zero _)) (fun t c z k7=>by rw [hB]at k7;obtain⟨n,tA⟩:=k7;simp at tA)
 ·cases hb;exact .inr qT
 ·by_cases hq:q=b
  ·subst hq;exact .inl qT
  ·exact absurd (show(if q=b then _ else B.M.G q o)=B.M.G q o from if_neg hq) dP
 ·have nR:(if q=b then(if o<l.length then(l[o]?).map fun x=>Value.string ⟨⟨x⟩⟩else none)else B.M.G q o)=some v:=hq
  by_cases QV:q=b
  ·rw [if_pos QV]at nR
   obtain⟨hj,rfl⟩:=hJ o v nR
   rw [QV]
   exact⟨qC o hj,rfl⟩
  ·rw [if_neg QV]at nR
   exact(TW q o v nR).2
 ·match t with
  | 0=>
   simp at ht
   subst ht
   refine .inr ⟨b,cap,1,vs,T,rfl,dj,by simp [zs,dC],hl,fun off ho=> ?_,fun h=>by cases h⟩
   show(if b=b then(if off<l.length then _ else none)else B.M.G b off)=none
   rw [if_pos rfl,if_neg (by simp [zs]at ho;omega)]
  | t+1=>simp at ht
 ·obtain⟨n1,h1⟩:=Iq
  obtain⟨n2,h2⟩:=k7
  have a1:=(List.getElem?_eq_some_iff.1 h1).1
  have a2:=(List.getElem?_eq_some_iff.1 h2).1
  simp at a1 a2
  omega
 ·simp only [Tm.get]
  split
  ·rename_i QW
   subst QW
   rw [Gl]
   have:=RD.slice (M:=M') (s:=⟨[],[some l.length]⟩) (.tok 0) 1 (l.map encStr) b 0 cap (by simpa using hl) (fun row hr=>by
    obtain⟨x,_,rfl⟩:=List.mem_map.1 hr;rfl) (fun i row j d e1 e2=> ?_) (fun i row j d u e1 e2 eu=> ?_) ⟨by simp,fun n tA=>by
    simp at tA
    subst tA
    exact⟨by simp,fun _=> .inr ⟨b,rfl,rfl⟩⟩⟩
   ·simpa using this
   ·rw [List.getElem?_map]at e1
    cases tq:l[i]? with
    | none=>rw [tq]at e1;cases e1
    | some x=>
     have nc:=(List.getElem?_eq_some_iff.1 tq).1
     rw [tq]at e1
     cases e1
     have hj:j=0:=by cases j with | zero=>rfl | succ j=>simp [encStr]at e2
     subst hj
     refine⟨.string ⟨⟨x⟩⟩, ?_⟩
     show(if b=b then(if 0+(i*1+0)<l.length then _ else none)else _)=_
     rw [if_pos rfl,if_pos (by omega)]
     simp [tq]
   ·rw [List.getElem?_map]at e1
    cases tq:l[i]? with
    | none=>rw [tq]at e1;cases e1
    | some x=>
     have nc:=(List.getElem?_eq_some_iff.1 tq).1
     rw [tq]at e1
     cases e1
     have hj:j=0:=by cases j with | zero=>rfl | succ j=>simp [encStr]at e2
     subst hj
     have DT:(if b=b then(if 0+(i*1+0)<l.length then(l[0+(i*1+0)]?).map fun x=>Value.string ⟨⟨x⟩⟩else none)else B.M.G b (0+(i*1+0)))=some u:=eu
     rw [if_pos rfl,if_pos (by omega)]at DT
     simp [tq]at DT
     subst DT
     simp [encStr]at e2
     subst e2
     exact .str x
  ·exact .junk _
theorem D5 (hB:B.s = ⟨[],[]⟩) {tm:Tm} {s:St} {act pz:Act} {w:World} (h:Holds B nt tm s act w) {k:Nat} (Gl:pz.tmps.getD k Go.undef = .slice none 0 0∨∃ b q,pz.tmps.getD k Go.undef = .slice (some ⟨b,q,none⟩) 0 0) (hn:pz.tmps.size=nt) (hd:pz.defers = []) :
 Holds B nt [(k, .slice (.tok 0) 1 (([] : List aD).map encStr))] ⟨[],[some 0]⟩ pz w:=by
 obtain⟨M,e,r,hr,_,_⟩:=h
 let M':Map:=⟨B.M.G,B.M.loc,fun _=>none⟩
 refine⟨M',⟨⟨fun q o v hq=>hq,by simp [hB],fun o ho=>rfl,by rw [hB];exact Nat.zero_le _,fun t n' ht _=>by rw [hB]at ht;exact absurd ht (Nat.not_lt_zero _)⟩,fun q hq _ _=> ?_,fun o _ h2=>absurd h2 (Nat.not_lt_zero _),fun t q c z _ hb=>(by cases hb),fun q o dP=>absurd rfl dP,e.size,e.os,e.tape,e.output⟩,
  ⟨fun q o v hq=>r.comm q o v (e.le.G q o v hq),fun o ds ho=>by simp at ho,fun o ho=>absurd ho (Nat.not_lt_zero _),fun o o' ho=>absurd ho (Nat.not_lt_zero _),fun t n ht=> ?_,fun t q c z o _ _ ho=>absurd ho (Nat.not_lt_zero _),fun t t' q c z c' z' Iq k7 h1 _=>by cases h1⟩,fun u=> ?_,hn,hd⟩
 ·exact e.kept q hq (fun o ho=>by rw [hB]at ho;exact absurd ho (Nat.not_lt_zero _)) (fun t c z k7=>by rw [hB]at k7;obtain⟨n,tA⟩:=k7;simp at tA)
 ·match t with
  | 0=>simp at ht;subst ht;exact .inl ⟨rfl,rfl⟩
  | t+1=>simp at ht
 ·simp only [Tm.get]
  split
  ·rename_i QW
   subst QW
   have lW : ∀ base,fI M' ⟨[],[some 0]⟩ (.tok 0) 1 0 base 0:=fun base=>⟨by simp,fun n tA=>by
    simp at tA
    subst tA
    exact⟨Nat.le_refl _,fun _=> .inl ⟨rfl,rfl,fun h=>by cases h⟩⟩⟩
   rcases Gl with h | ⟨b,q,h⟩
   ·rw [h];exact .gA _ _ 0 rfl (lW none)
   ·rw [h];exact .slice (.tok 0) 1 [] b q 0 (Nat.le_refl _) (by simp) (by simp) (by simp) (lW _)
  ·exact .junk _
theorem Cx {α:Type} [Inhabited α] (enc:α→Value) (d:Array α) (c:Array Value) (j:Nat):(Sort.putCells enc 0 d c)[j]? = if j<d.size then(c[j]?).map fun _=>enc d[j]! else c[j]? :=by
 simp only [Sort.putCells,Array.getElem?_mapIdx]
 cases h:c[j]? with
 | none=>simp
 | some x=>by_cases hj:j<d.size <;> simp [hj]
theorem zW {w:World} {b n cap:Nat} {vs:Array Value} {T:TypeId} (dj:w.heap[b]? = some (.cells vs T (0,0))) (dC:vs.size=cap) (l:List aD) (hl:l.length≤cap) (os:Array Obj) :
 (∀ q,q≠b→q<w.heap.size→(Sort.grow (Sort.putRow Go.Proofs.encStr (Sort.ahead w n) b 0 l.toArray) os).heap[q]? = w.heap[q]?)∧
 (Sort.grow (Sort.putRow Go.Proofs.encStr (Sort.ahead w n) b 0 l.toArray) os).heap[b]? = some (.cells (Sort.putCells Go.Proofs.encStr 0 l.toArray vs) T (0,0))∧w.heap.size≤(Sort.grow (Sort.putRow Go.Proofs.encStr (Sort.ahead w n) b 0 l.toArray) os).heap.size∧
 (Sort.putCells Go.Proofs.encStr 0 l.toArray vs).size=cap∧∀ j (hj:j<l.length),(Sort.putCells Go.Proofs.encStr 0 l.toArray vs)[j]? = some (.string ⟨⟨l[j]⟩⟩):=by
 have hb:b<w.heap.size:=(Array.getElem?_eq_some_iff.1 dj).1
 refine⟨fun q hq hD=> ?_, ?_, ?_, ?_,fun j hj=> ?_⟩
 ·simp only [Sort.grow,Sort.putRow,Sort.mapBlock,Sort.ahead]
  rw [Array.getElem?_append_left (by simpa using hD),Array.getElem?_modify]
  simp [Ne.symm hq]
 ·simp only [Sort.grow,Sort.putRow,Sort.mapBlock,Sort.ahead]
  rw [Array.getElem?_append_left (by simpa using hb),Array.getElem?_modify]
  simp [dj,Sort.onCells]
 ·simp [Sort.grow,Sort.putRow,Sort.mapBlock,Sort.ahead]
 ·simp [Sort.putCells,dC]
 ·rw [Cx]
  have h1:j<l.toArray.size:=by simpa using hj
  have h2:vs[j]? = some vs[j]:=Array.getElem?_eq_getElem (by omega)
  rw [if_pos h1,h2]
  simp [hj]
def jz (l:List aD):List aD:=l.mergeSort fun x y=>decide (x≤y)
theorem Cy {act:Act} {b:Nat} {v:Value} {u:Nat} (h:u≠b):(act.put (some b) v).tmps.getD u Go.undef=act.tmps.getD u Go.undef:=by
 simp only [Act.put,Array.getD_eq_getD_getElem?]
 rw [Array.getElem?_setIfInBounds_ne (fun e=>h e.symm)]
theorem zX {act:Act} {b:Nat} {v:Value} (h:b<act.tmps.size):(act.put (some b) v).tmps.getD b Go.undef=v:=by
 simp only [Act.put,Array.getD_eq_getD_getElem?]
 simp [h]
theorem Sem.sort (hB:B.s = ⟨[],[]⟩) {a k b t:Nat} {l:List aD} {is:List AI} {Q:Exit→Tm→St→Prop} {tm:Tm} {s:St} (hak:a≠k) (TX:b≠k) (MP:a≠b)
 (hk:tm.get k = .slice (.tok t) 1 (l.map encStr)) (ht:s.aw[t]? = some (some l.length)) (hl:l.length<4611686018427387904)
 (h:fM Try.prog is (Q .normal) [(k, .slice (.tok 0) 1 ((jz l).map encStr))] ⟨[],[some l.length]⟩) :
 Sem Try.prog B nt (.run (.op (some a) none (.mv (.s k)):: .call (some b) none fZ [.s a]::is)) Q tm s:=by
 refine Sem.QU fun act w hh=> ?_
 have tg:(tm.put (some a) (tm.get k)).get k = .slice (.tok t) 1 (l.map encStr):=by rw [Tm.iN,if_neg (by simpa using hak)];exact hk
 have Cz:(tm.put (some a) (tm.get k)).get a = .slice (.tok t) 1 (l.map encStr):=by rw [Tm.iN,if_pos rfl];exact hk
 have xY:(jz l).length=l.length:=List.length_mergeSort l
 have hn:(act.put (some b) (.tuple #[])).tmps.size=nt:=by obtain⟨_,_,_,_,h1,_⟩:=hh;simpa [Act.put]using h1
 have hd:(act.put (some b) (.tuple #[])).defers = []:=by obtain⟨_,_,_,_,_,h1⟩:=hh;simpa [Act.put]using h1
 have dC:(act.tmps).size=nt:=by obtain⟨_,_,_,_,h1,_⟩:=hh;exact h1
 rcases zV hB hh ht Cz with ⟨rfl,hv⟩ | ⟨b',cap,vs,T,hv,o6,dj,lr,qT,jq⟩
 ·rw [show jz [] = [] by simp [jz]]at h
  have call : ∀ p,act.tmps.getD a Go.undef = .slice p 0 0→Calls Try.prog fZ #[act.tmps.getD a Go.undef] w fun e w'=>∃ v,e = .returned v∧∃ bm s',Holds B nt bm s' (act.put (some b) v) w'∧fM Try.prog is (Q .normal) bm s':=by
   intro p hp
   rw [hp]
   refine(Try.slices_Sort_string_none p 0 w).mono ?_
   rintro e w' ⟨rfl,rfl⟩
   refine⟨_,rfl,_,_,D5 hB hh (k:=k) ?_ hn hd,h⟩
   rw [Cy (Ne.symm TX)]
   exact hv k tg
  rcases hv a Cz with h1 | ⟨b',q,h1⟩
  ·exact call _ h1
  ·exact call _ h1
 ·rw [hv a Cz]
  have hD:b'<w.heap.size:=(Array.getElem?_eq_some_iff.1 dj).1
  refine(Try.slices_Sort_string b' 0 cap l w (fun j hj=> ?_) hD hl).mono ?_
  ·have IV:j<l.length:=by simpa using hj
   refine⟨?_,by simp [World.frozen?,dj]⟩
   rw [Nat.zero_add,iC dj,jq j IV]
   simp [IV]
  ·rintro e w' ⟨rfl,n,os,rfl⟩
   obtain⟨p1,p2,p3,p4,p5⟩:=zW (n:=n) dj lr (jz l) (by omega) os
   have hH:=Cw hB hh (pz:=act.put (some b) (.tuple #[])) (l:=jz l) (k:=k) p4 qT (fun q hq=>p1 q (by omega) (by obtain⟨M,e,_⟩:=hh;exact Nat.lt_of_lt_of_le hq e.size)) p2 p3 rfl rfl rfl (by omega) p5 (by rw [Cy (Ne.symm TX),hv k tg,xY]) hn hd
   rw [xY]at hH
   exact⟨_,rfl,_,_,hH,h⟩
theorem Dw (l:List aD):(Lib.compact l).length≤l.length:=by
 unfold Lib.compact Lib.compactUpTo
 rw [List.length_map]
 exact Nat.le_trans (List.length_filter_le _ _) (by simp)
theorem Sem.compact (hB:B.s = ⟨[],[]⟩) {a k b t:Nat} {l:List aD} {is:List AI} {Q:Exit→Tm→St→Prop} {tm:Tm} {s:St} (TY:b<nt)
 (hk:tm.get k = .slice (.tok t) 1 (l.map encStr)) (ht:s.aw[t]? = some (some l.length)) (hl:l.length<4611686018427387904)
 (h:fM Try.prog is (Q .normal) [(b, .slice (.tok 0) 1 ((Lib.compact l).map encStr))] ⟨[],[some (Lib.compact l).length]⟩) :
 Sem Try.prog B nt (.run (.op (some a) none (.mv (.s k)):: .call (some b) none gq [.s a]::is)) Q tm s:=by
 refine Sem.QU fun act w hh=> ?_
 have Cz:(tm.put (some a) (tm.get k)).get a = .slice (.tok t) 1 (l.map encStr):=by rw [Tm.iN,if_pos rfl];exact hk
 have dC:(act.tmps).size=nt:=by obtain⟨_,_,_,_,h1,_⟩:=hh;exact h1
 have hn : ∀ v,(act.put (some b) v).tmps.size=nt:=fun v=>by simpa [Act.put]using dC
 have hd : ∀ v,(act.put (some b) v).defers = []:=by obtain⟨_,_,_,_,_,h1⟩:=hh;intro v;simpa [Act.put]using h1
 rcases zV hB hh ht Cz with ⟨rfl,hv⟩ | ⟨b',cap,vs,T,hv,o6,dj,lr,qT,jq⟩
 ·rw [show Lib.compact ([] : List aD) = []from rfl]at h
  have call : ∀ p,act.tmps.getD a Go.undef = .slice p 0 0→(p=none∨∃ b q,p=some ⟨b,q,none⟩)→Calls Try.prog gq #[act.tmps.getD a Go.undef] w fun e w'=>∃ v,e = .returned v∧∃ bm s',Holds B nt bm s' (act.put (some b) v) w'∧fM Try.prog is (Q .normal) bm s':=by
   intro p hp hq
   rw [hp]
   refine(Try.slices_Compact_string_empty p 0 w).mono ?_
   rintro e w' ⟨rfl,rfl⟩
   refine⟨_,rfl,_,_,D5 hB hh (k:=b) ?_ (hn _) (hd _),h⟩
   rw [zX (by omega)]
   rcases hq with rfl | ⟨x,y,rfl⟩
   ·exact .inl rfl
   ·exact .inr ⟨x,y,rfl⟩
  rcases hv a Cz with h1 | ⟨b',q,h1⟩
  ·exact call _ h1 (.inl rfl)
  ·exact call _ h1 (.inr ⟨b',q,rfl⟩)
 ·rw [hv a Cz]
  have Bs:(Lib.compact l).length≤l.length:=Dw l
  refine(Try.slices_Compact_string b' 0 cap l w (fun j hj=> ?_) (by omega) o6).mono ?_
  ·have IV:j<l.length:=by simpa using hj
   refine⟨?_,by simp [World.frozen?,dj]⟩
   rw [Nat.zero_add,iC dj,jq j IV]
   simp [IV]
  ·rintro e w' ⟨rfl,q,rfl⟩
   obtain⟨p1,p2,p3,p4,p5⟩:=zW (n:=q) dj lr (Lib.compact l++List.replicate (l.length - (Lib.compact l).length) []) (by simp;omega) #[]
   rw [Sort.grow_empty]at p1 p2 p3
   have hH:=Cw hB hh (pz:=act.put (some b) (.slice (some ⟨b',0,none⟩) (Lib.compact l).length cap)) (l:=Lib.compact l) (k:=b) p4 qT (fun q hq=>p1 q (by omega) (by obtain⟨M,e,_⟩:=hh;exact Nat.lt_of_lt_of_le hq e.size)) p2 p3 rfl rfl rfl (by omega)
    (fun j hj=>by
     have:=p5 j (by simp;omega)
     rw [List.getElem_append_left hj]at this
     exact this) (zX (by omega)) (hn _) (hd _)
   exact⟨_,rfl,_,_,hH,h⟩
end
end Go.Abs

/-! SrtP -/

namespace Go.Abs
theorem xZ {a b:UInt8} : a<b↔a.toNat<b.toNat:=UInt8.lt_iff_toNat_lt
theorem sw : ∀ a:aD,bytesLess a a=false
 | []=>rfl
 | x::a=>by
  show Go.Op.bytesLess (x::a) (x::a)=false
  have h:=sw a
  have h:Go.Op.bytesLess a a=false:=h
  simp [Go.Op.bytesLess,h]
theorem sx : ∀ a b:aD,bytesLess a b=true∨a=b∨bytesLess b a=true
 | [],[]=> .inr (.inl rfl)
 | [],y::b=> .inl rfl
 | x::a,[]=> .inr (.inr rfl)
 | x::a,y::b=>by
  show Go.Op.bytesLess (x::a) (y::b)=true∨_∨Go.Op.bytesLess (y::b) (x::a)=true
  have h:Go.Op.bytesLess a b=true∨a=b∨Go.Op.bytesLess b a=true:=sx a b
  simp only [Go.Op.bytesLess,Bool.or_eq_true,Bool.and_eq_true,decide_eq_true_eq,beq_iff_eq,List.cons.injEq]
  by_cases e:x=y
  ·subst e
   rcases h with h | h | h
   ·exact .inl (.inr ⟨rfl,h⟩)
   ·exact .inr (.inl ⟨rfl,h⟩)
   ·exact .inr (.inr (.inr ⟨rfl,h⟩))
  ·have:x.toNat≠y.toNat:=fun h=>e (UInt8.toNat_inj.1 h)
   rcases Nat.lt_or_gt_of_ne this with h | h
   ·exact .inl (.inl (xZ.2 h))
   ·exact .inr (.inr (.inl (xZ.2 h)))
theorem x3 : ∀ a b c:aD,bytesLess a b=true→bytesLess b c=true→bytesLess a c=true
 | a,b,[],h1,h2=>by cases b <;> cases h2
 | a,[],z::c,h1,h2=>by cases a <;> cases h1
 | [],y::b,z::c,h1,h2=>rfl
 | x::a,y::b,z::c,h1,h2=>by
  have h1:Go.Op.bytesLess (x::a) (y::b)=true:=h1
  have h2:Go.Op.bytesLess (y::b) (z::c)=true:=h2
  show Go.Op.bytesLess (x::a) (z::c)=true
  simp only [Go.Op.bytesLess,Bool.or_eq_true,Bool.and_eq_true,decide_eq_true_eq,beq_iff_eq]at h1 h2 ⊢
  rcases h1 with e1 | ⟨i1,e1⟩
  ·rcases h2 with e2 | ⟨i2,e2⟩
   ·exact .inl (xZ.2 (Nat.lt_trans (xZ.1 e1) (xZ.1 e2)))
   ·exact .inl (i2 ▸ e1)
  ·rcases h2 with e2 | ⟨i2,e2⟩
   ·exact .inl (i1 ▸ e2)
   ·exact .inr ⟨i1.trans i2,x3 a b c e1 e2⟩
def uZ (l:List aD):Prop:=l.Pairwise fun a b=>bytesLess a b=true
theorem rL : ∀ {a b:List aD},uZ a→uZ b→(∀ x,x∈a↔x∈b)→a=b
 | [],[],_,_,_=>rfl
 | [],y::b,_,_,h=>absurd ((h y).2 List.mem_cons_self) (by simp)
 | x::a,[],_,_,h=>absurd ((h x).1 List.mem_cons_self) (by simp)
 | x::a,y::b,h1,h2,h=>by
  obtain⟨g1,g2⟩:=List.pairwise_cons.1 h1
  obtain⟨g3,g4⟩:=List.pairwise_cons.1 h2
  have e:x=y:=by
   rcases List.mem_cons.1 ((h x).1 List.mem_cons_self)with e | m
   ·exact e
   ·rcases List.mem_cons.1 ((h y).2 List.mem_cons_self)with e | m'
    ·exact e.symm
    ·have:=x3 _ _ _ (g3 x m) (g1 y m');rw [sw]at this;cases this
  subst e
  rw [rL g2 g4 fun z=> ?_]
  constructor
  ·intro m
   rcases List.mem_cons.1 ((h z).1 (List.mem_cons_of_mem _ m))with e | m'
   ·subst e;have:=g1 z m;rw [sw]at this;cases this
   ·exact m'
  ·intro m
   rcases List.mem_cons.1 ((h z).2 (List.mem_cons_of_mem _ m))with e | m'
   ·subst e;have:=g3 z m;rw [sw]at this;cases this
   ·exact m'
theorem pT (out:List aD) : ∀ (l:List aD) (c:aD) (a:Bool),
 let q:=kb out l c a
 (q.2=false↔a=false∧∀ x∈l,x∈out)∧(q.2=true→((a=true∧q.1=c)∨(q.1∈l∧q.1∉out))∧(a=true→bytesLess c q.1=false)∧∀ x∈l,x∉out→bytesLess x q.1=false)
 | [],c,a=>by
  simp only [kb]
  refine⟨by simp,fun h=>⟨.inl ⟨h,by trivial⟩,fun _=>sw c,fun x m=>(by cases m)⟩⟩
 | s::l,c,a=>by
  simp only [kb]
  by_cases h1:dY out s=true
  ·have m:=(hO _ _).1 h1
   simp only [h1,Bool.not_true,Bool.false_and,Bool.false_eq_true,if_false]
   obtain⟨k1,k2⟩:=pT out l c a
   refine⟨k1.trans ⟨fun h=>⟨h.1,fun x hx=> ?_⟩,fun h=>⟨h.1,fun x hx=>h.2 x (List.mem_cons_of_mem _ hx)⟩⟩,fun h=> ?_⟩
   ·rcases List.mem_cons.1 hx with rfl | hx
    ·exact m
    ·exact h.2 x hx
   ·obtain⟨g1,g2,g3⟩:=k2 h
    refine⟨g1.imp_right fun h=>⟨List.mem_cons_of_mem _ h.1,h.2⟩,g2,fun x hx hn=> ?_⟩
    rcases List.mem_cons.1 hx with rfl | hx
    ·exact absurd m hn
    ·exact g3 x hx hn
  ·have m:s∉out:=fun m=>h1 ((hO _ _).2 m)
   have nT:dY out s=false:=by simpa using h1
   by_cases h2:(!a || bytesLess s c)=true
   ·simp only [nT,h2,Bool.not_false,Bool.and_self,if_true]
    obtain⟨k1,k2⟩:=pT out l s true
    refine⟨⟨fun h=>absurd (k1.1 h).1 (by simp),fun h=>absurd (h.2 s List.mem_cons_self) m⟩,fun h=> ?_⟩
    obtain⟨g1,g2,g3⟩:=k2 h
    have g4:=g2 rfl
    refine⟨.inr ?_,fun ha=> ?_,fun x hx hn=> ?_⟩
    ·rcases g1 with ⟨_,e⟩ | g1
     ·rw [e];exact⟨List.mem_cons_self,m⟩
     ·exact⟨List.mem_cons_of_mem _ g1.1,g1.2⟩
    ·have h3:bytesLess s c=true:=by simpa [ha]using h2
     cases hh:bytesLess c (kb out l s true).1
     ·rfl
     ·have:=x3 _ _ _ h3 hh;rw [g4]at this;cases this
    ·rcases List.mem_cons.1 hx with rfl | hx
     ·exact g4
     ·exact g3 x hx hn
   ·have sd:(!a || bytesLess s c)=false:=by simpa using h2
    have ha:a=true:=by cases a <;> simp_all
    have h3:bytesLess s c=false:=by cases a <;> simp_all
    simp only [nT,sd,Bool.not_false,Bool.and_false,Bool.false_eq_true,if_false]
    obtain⟨k1,k2⟩:=pT out l c a
    refine⟨⟨fun h=>absurd (k1.1 h).1 (by simp [ha]),fun h=>absurd h.1 (by simp [ha])⟩,fun h=> ?_⟩
    obtain⟨g1,g2,g3⟩:=k2 h
    refine⟨g1.imp_right fun h=>⟨List.mem_cons_of_mem _ h.1,h.2⟩,g2,fun x hx hn=> ?_⟩
    rcases List.mem_cons.1 hx with rfl | hx
    ·cases hh:bytesLess x (kb out l c a).1
     ·rfl
     ·have g4:=g2 ha
      rcases sx x c with e | e | e
      ·rw [h3]at e;cases e
      ·subst e;rw [g4]at hh;cases hh
      ·have:=x3 _ _ _ e hh;rw [g4]at this;cases this
    ·exact g3 x hx hn
theorem rM (l:List aD) : ∀ (n:Nat) (out:List aD),uZ out→(∀ x∈out,x∈l)→(∀ x∈out,∀ y∈l,y∉out→bytesLess x y=true)→
 uZ (lR l n out)∧(∀ x∈lR l n out,x∈l)∧(∀ x∈out,x∈lR l n out)∧((∀ x∈l,x∈lR l n out)∨(lR l n out).length=out.length+n)
 | 0,out,h1,h2,h3=>⟨h1,h2,fun x m=>m, .inr rfl⟩
 | n+1,out,h1,h2,h3=>by
  simp only [lR,IT]
  obtain⟨k1,k2⟩:=pT out l [] false
  cases hq:(kb out l [] false).2
  ·simp only [Bool.false_eq_true,if_false]
   obtain⟨g1,g2,g3,g4⟩:=rM l n out h1 h2 h3
   exact⟨g1,g2,g3, .inl fun x m=>g3 x ((k1.1 hq).2 x m)⟩
  ·simp only [if_true]
   obtain⟨g1,_,g3⟩:=k2 hq
   have g1:(kb out l [] false).1∈l∧(kb out l [] false).1∉out:=by
    rcases g1 with ⟨h,_⟩ | g1
    ·cases h
    ·exact g1
   generalize (kb out l [] false).1=c at g1 g3
   obtain⟨r1,r2,r3,r4⟩:=rM l n (out++ [c])
    (by
     refine List.pairwise_append.2 ⟨h1,by simp,fun x hx y hy=> ?_⟩
     have:y=c:=by simpa using hy
     subst this
     exact h3 x hx y g1.1 g1.2)
    (fun x hx=>by
     rcases List.mem_append.1 hx with hx | hx
     ·exact h2 x hx
     ·have:x=c:=by simpa using hx
      subst this;exact g1.1)
    (fun x hx y hy hn=>by
     have T1:y∉out:=fun m=>hn (List.mem_append_left _ m)
     have hyc:y≠c:=fun e=>hn (List.mem_append_right _ (by simp [e]))
     rcases List.mem_append.1 hx with hx | hx
     ·exact h3 x hx y hy T1
     ·have:x=c:=by simpa using hx
      subst this
      rcases sx x y with h | h | h
      ·exact h
      ·exact absurd h.symm hyc
      ·rw [g3 y hy T1]at h;cases h)
   refine⟨r1,r2,fun x m=>r3 x (List.mem_append_left _ m),r4.imp_right fun h=> ?_⟩
   rw [h];simp;omega
theorem q6 : ∀ (a l:List aD),a.Nodup→(∀ x∈a,x∈l)→a.length≤l.length
 | [],l,_,_=>Nat.zero_le _
 | x::a,l,h,hm=>by
  obtain⟨h1,h2⟩:=List.nodup_cons.1 h
  have m:=hm x List.mem_cons_self
  have:=q6 a (l.erase x) h2 fun y hy=>(List.mem_erase_of_ne (fun e=>h1 (by rw [← e];exact hy))).2 (hm y (List.mem_cons_of_mem _ hy))
  rw [List.length_erase_of_mem m]at this
  have:0<l.length:=List.length_pos_of_mem m
  simp only [List.length_cons];omega
theorem pU {l:List aD} (h:uZ l):l.Nodup:=h.imp fun {a b} h e=>by subst e;rw [sw]at h;cases h
theorem gS (l:List aD):uZ (gv l)∧∀ x,x∈gv l↔x∈l:=by
 obtain⟨h1,h2,h3,h4⟩:=rM l l.length [] List.Pairwise.nil (fun x m=>(by cases m)) (fun x m=>(by cases m))
 refine⟨h1,fun x=>⟨h2 x,fun m=> ?_⟩⟩
 rcases h4 with h4 | h4
 ·exact h4 x m
 ·refine Classical.byContradiction fun hn=> ?_
  have:=q6 (x::lR l l.length []) l (List.nodup_cons.2 ⟨hn,pU h1⟩) fun y hy=>by
   rcases List.mem_cons.1 hy with rfl | hy
   ·exact m
   ·exact h2 y hy
  simp only [List.length_cons,h4,List.length_nil]at this
  omega
theorem Dy (zs:List aD) (hs:zs.Pairwise fun a b=>bytesLess b a=false) : ∀ m,m≤zs.length→
 uZ (Lib.compactUpTo zs.toArray m)∧(∀ x,x∈Lib.compactUpTo zs.toArray m↔x∈zs.take m):=by
 intro m
 induction m with
 | zero=>intro _;exact⟨by simp [Lib.compactUpTo,uZ],fun x=>by simp [Lib.compactUpTo]⟩
 | succ m ih=>
  intro hm
  obtain⟨h1,h2⟩:=ih (by omega)
  have hz:zs[m]? = some zs[m]:=List.getElem?_eq_getElem (by omega)
  have e1:zs.toArray[m]! = zs[m]:=by simp [hm,Nat.lt_of_succ_le hm]
  have et:zs.take (m+1)=zs.take m++ [zs[m]]:=by rw [List.take_add_one,hz];rfl
  rw [Lib.compactUpTo_succ,e1,et]
  by_cases hk:Lib.keeps zs.toArray m=true
  ·rw [if_pos hk]
   refine⟨List.pairwise_append.2 ⟨h1,by simp,fun x hx y hy=> ?_⟩,fun x=>by rw [List.mem_append,List.mem_append,h2]⟩
   have hy:y=zs[m]:=by simpa using hy
   subst hy
   have hx:=(h2 x).1 hx
   simp only [Lib.keeps,decide_eq_true_eq]at hk
   rcases hk with rfl | hk
   ·simp at hx
   ·have Co:m - 1<zs.length:=by omega
    have e2:zs.toArray[m - 1]! = zs[m - 1]:=by simp [Co]
    rw [e1,e2]at hk
    have h0:0<m:=by
     cases m with
     | zero=>simp at hx
     | succ m=>omega
    have hle : ∀ i j (hi:i<zs.length) (hj:j<zs.length),i<j→bytesLess zs[j] zs[i] = false:=fun i j hi hj L6=>List.pairwise_iff_getElem.1 hs i j hi hj L6
    have g1:bytesLess zs[m] zs[m - 1] = false:=hle (m - 1) m Co (by omega) (by omega)
    have g2:bytesLess zs[m - 1] zs[m] = true:=by
     rcases sx zs[m - 1] zs[m]with h | h | h
     ·exact h
     ·exact absurd h.symm hk
     ·rw [g1]at h;cases h
    obtain⟨i,hi,rfl⟩:=List.mem_iff_getElem.1 hx
    rw [List.length_take]at hi
    rw [List.getElem_take]
    by_cases ur:i=m - 1
    ·subst ur;exact g2
    ·have g3:=hle i (m - 1) (by omega) Co (by omega)
     rcases sx zs[i] zs[m - 1]with h | h | h
     ·exact x3 _ _ _ h g2
     ·rw [h];exact g2
     ·rw [g3]at h;cases h
  ·rw [if_neg hk]
   simp only [List.append_nil]
   refine⟨h1,fun x=> ?_⟩
   rw [h2]
   simp only [Lib.keeps,decide_eq_true_eq,not_or,ne_eq,Decidable.not_not]at hk
   obtain⟨k1,k2⟩:=hk
   have Co:m - 1<zs.length:=by omega
   have e2:zs.toArray[m - 1]! = zs[m - 1]:=by simp [Co]
   rw [e1,e2]at k2
   simp only [List.mem_append,List.mem_singleton]
   constructor
   ·exact .inl
   ·rintro(h | rfl)
    ·exact h
    ·rw [k2]
     exact List.mem_iff_getElem.2 ⟨m - 1,by rw [List.length_take];omega,by rw [List.getElem_take]⟩
theorem zY (l:List aD):(jz l).Pairwise fun a b=>bytesLess b a=false:=by
 have h:=List.pairwise_mergeSort (le:=fun x y:aD=>decide (x≤y)) (fun a b c h1 h2=> ?_) (fun a b=> ?_) l
 ·refine h.imp fun {a b} h=> ?_
  rw [decide_eq_true_eq]at h
  show Go.Op.bytesLess b a=false
  rw [Go.Proofs.bytesLess_eq]
  simpa using h
 ·rw [decide_eq_true_eq]at h1 h2 ⊢
  exact List.le_trans h1 h2
 ·have:=List.le_total a b
  simpa using this
theorem u5 (l:List aD):Lib.compact (jz l)=gv l:=by
 obtain⟨h1,h2⟩:=Dy (jz l) (zY l) (jz l).length (Nat.le_refl _)
 obtain⟨h3,h4⟩:=gS l
 refine rL h1 h3 fun x=> ?_
 rw [h4]
 refine(h2 x).trans ?_
 rw [List.take_length]
 exact(List.mergeSort_perm _ _).mem_iff
end Go.Abs

/-! Tc1 -/

namespace Go.Abs
set_option maxRecDepth 8000
open Go.Proofs
def gh:List Sm→List aD
 | []=> []
 | v::l=>if v.kind==4 then v.proc::gh l else gh l
theorem wa : ∀ l:List Sm,(gh l).length≤l.length
 | []=>Nat.le_refl _
 | v::l=>by
  simp only [gh]
  have:=wa l
  split <;> simp <;> omega
def Pc.calls (f:Pc):List aD:=gv (gh (Sm.dm f.body))
theorem u6 {name:aD} : ∀ {l:List Pc} {k:Nat} {f:Pc},gu name l=some f→∃ j,l[j]? = some f∧jK (fun f:Pc=>f.name==name) (k:Int) l=((k+j:Nat):Int)
 | g::l,k,f,h=>by
  simp only [gu]at h
  cases e:(g.name==name)
  ·rw [e]at h
   simp only [Bool.false_eq_true,if_false]at h
   obtain⟨j,h1,h2⟩:=u6 (k:=k+1) h
   refine⟨j+1,by simpa using h1, ?_⟩
   simp only [jK,e,Bool.false_eq_true,if_false]
   rw [show((k:Int)+1)=((k+1:Nat):Int)from rfl,h2]
   congr 1;omega
  ·rw [e]at h
   simp only [if_true,Option.some.injEq]at h
   exact⟨0,by simpa using h,by simp [jK,e]⟩
theorem Oi {p:Pg} (h:p.jy) {name:aD} {f:Pc} (hf:p.find name=some f) (s:St):aI Try.prog pf [.dc (ja p) 0, .str name] s (.slice .shared 1 (f.calls.map encStr)) s:=by
 refine aI.pure ?_ (by simp [D.bI,D.ok,yQ]) (by simp only [D.ok,Tag.ok,fc];rfl) s
 obtain⟨sa,qW,sr⟩:=h.procs
 obtain⟨j,hj,tj⟩:=u6 (k:=0) hf
 have tj:p.at name=((j:Nat):Int):=by unfold Pg.at;simpa using tj
 have zQ:=fun s=>Io (p:=p) (by omega) name s
 rw [tj]at zQ
 obtain⟨it,su,IP⟩:=K6 hj (by omega)
 have QQ:it.length≤900000:=by
  have e:=congrArg List.length su
  obtain⟨a,b,e',_,_,e3,e4⟩:=(mN p).2 j f hj
  have e5:=mO p
  have e6:=congrArg List.length e3
  rw [e4]at e5
  simp only [List.length_map,List.length_append]at e e5 e6
  omega
 unfold S0
 obtain⟨fn,tC,Ct⟩:=xC
 refine aI.intro ⟨fn,tC,Ct⟩ (Nat.le_of_ble_eq_true rfl) fun B hB=> ?_
 generalize hQ:n6 (⟨[],[]⟩:St).av.length (⟨[],[]⟩:St).aw.length _ _ (⟨[],[]⟩:St)=Q
 have⟨hD,hJ,hP,hZ⟩:=b7
 refine Sem.o9 ?_
 repeat' (first
 | simp only [go_sem,hD,hJ,hP,hZ]
 | (with_reducible refine aJ hQ ?_;simp only [az,aB,Option.some.injEq,exists_eq_left',go_sem,hD,hJ,hP,hZ];repeat' (first | exact Ok.out | with_reducible refine aR ?_ ?_ | (simp;done))))
 refine Sem.o9 ?_
 repeat' (first
 | simp only [go_sem,hD,hJ,hP,hZ]
 | (with_reducible refine aJ hQ ?_;simp only [az,aB,Option.some.injEq,exists_eq_left',go_sem,hD,hJ,hP,hZ];repeat' (first | exact Ok.out | with_reducible refine aR ?_ ?_ | (simp;done))))
 refine Sem.o9 ?_
 repeat' (first
 | simp only [go_sem,hD,hJ,hP,hZ]
 | (with_reducible refine CU (zQ _) ?_)
 | (with_reducible refine CU (IP _) ?_)
 | (with_reducible refine aJ hQ ?_;simp only [az,aB,Option.some.injEq,exists_eq_left',go_sem,hD,hJ,hP,hZ];repeat' (first | exact Ok.out | with_reducible refine aR ?_ ?_ | (simp;done))))
 refine bq.o8 5 1 rfl ?_
 simp only [go_sem,hD,hJ,hP,hZ]
 obtain⟨R,hR⟩ : ∃ R,R=gh (Sm.dm f.body):=⟨_,rfl⟩
 have QY:R.length≤900000:=by rw [hR, ← su];have:=wa (it.map Im.s);rw [List.length_map]at this;omega
 refine dG 0 1 (bq.ind (ι:=List Im×Nat×List aD×Nat) (fun i=>it.drop i.2.1=i.1∧i.2.2.1++gh (i.1.map Im.s)=R∧i.2.2.2=i.2.2.1.length) (fun i=>i.1.length)
  (fun i=> [(5, .slice (.tok 0) 1 (i.2.2.1.map encStr)),(12, .slice .shared 17 (it.map ey)),(13, .int .i64 (it.length:Int)),(14, .int .i64 (i.2.1:Int))]) (fun i=>⟨[],[some i.2.2.2]⟩) ?_ (it,0,[],0) ⟨rfl,by rw [hR,su];rfl,rfl⟩)
 rintro⟨rest,k,out,n⟩ ⟨h1,h2,h3⟩ IH
 dsimp only at h1 h2 h3
 subst h3
 have lV:out.length≤900000:=by have:=congrArg List.length h2;rw [List.length_append]at this;omega
 cases rest with
 | cons a rest=>
  obtain⟨hJ,g2,hD,g4⟩:=drop_cons h1
  have bE:k<4611686018427387904:=by omega
  have hP:(out.length+1)*17≤bt:=by unfold bt;omega
  simp only [List.map_cons,gh]at h2
  rcases Bool.eq_false_or_eq_true (a.s.kind==4)with c1 | c1
  ·simp only [c1,if_true]at h2
   repeat' (first
 | simp only [go_sem,hD,hJ,hP,hZ,c1]
 | (with_reducible refine aJ hQ ?_;simp only [az,aB,Option.some.injEq,exists_eq_left',go_sem,hD,hJ,hP,hZ];repeat' (first | exact Ok.out | with_reducible refine aR ?_ ?_ | (simp;done))))
   refine dt 0 1 ?_ ?_ (IH (rest,k+1,out++ [a.s.proc],out.length+1) ⟨g2,by rw [← h2];simp,by simp⟩ (Nat.lt_succ_self _))
   ·(simp only [go_sem,hD,hJ,hP,hZ,aF bE,List.map_append,List.map_cons,List.map_nil,encStr];try exact br)
   ·(simp only [go_sem,hD,hJ,hP,hZ,aF bE,List.map_append,List.map_cons,List.map_nil,encStr];try exact br)
  ·simp only [c1,Bool.false_eq_true,if_false]at h2
   repeat' (first
 | simp only [go_sem,hD,hJ,hP,hZ,c1]
 | (with_reducible refine aJ hQ ?_;simp only [az,aB,Option.some.injEq,exists_eq_left',go_sem,hD,hJ,hP,hZ];repeat' (first | exact Ok.out | with_reducible refine aR ?_ ?_ | (simp;done))))
   refine dt 0 1 ?_ ?_ (IH (rest,k+1,out,_) ⟨g2,h2,rfl⟩ (Nat.lt_succ_self _))
   ·(simp only [go_sem,hD,hJ,hP,hZ,aF bE];try exact br)
   ·(simp only [go_sem,hD,hJ,hP,hZ,aF bE];try exact br)
 | nil=>
  have hD:=drop_nil h1
  simp only [List.map_nil,gh,List.append_nil]at h2
  subst h2
  have xY:(jz out).length=out.length:=List.length_mergeSort out
  repeat' (first
 | simp only [go_sem,hD,hJ,hP,hZ]
 | (with_reducible refine aJ hQ ?_;simp only [az,aB,Option.some.injEq,exists_eq_left',go_sem,hD,hJ,hP,hZ];repeat' (first | exact Ok.out | with_reducible refine aR ?_ ?_ | (simp;done))))
  refine Sem.seq (Sem.sort (k:=5) (t:=0) (l:=out) hB (by decide) (by decide) (by decide) rfl rfl (by omega) ?_)
  show Sem _ _ _ _ _ _ _
  refine Sem.seq (Sem.compact (k:=5) (t:=0) (l:=jz out) hB (by decide) rfl (by rw [xY];rfl) (by rw [xY];omega) ?_)
  rw [u5]
  have Wo:f.calls=gv out:=by unfold Pc.calls;rw [hR]
  rw [Wo]at hQ
  refine gO (ac:= .ret) (Q:=Q) (tm:= [(32, .slice (.tok 0) 1 ((gv out).map encStr)),(4, .slice (.tok 0) 1 ((gv out).map encStr))]) (s:=⟨[],[some (gv out).length]⟩) ?_
  repeat' (first
 | simp only [go_sem,hD,hJ,hP,hZ]
 | (with_reducible refine aJ hQ ?_;simp only [az,aB,Option.some.injEq,exists_eq_left',go_sem,hD,hJ,hP,hZ];repeat' (first | exact Ok.out | with_reducible refine aR ?_ ?_ | (simp;done))))
end Go.Abs

/-! Tc2 -/

namespace Go.Abs
open Go.Proofs
theorem zZ {name:aD} : ∀ {l:List Pc},name∈l.map (·.name)→∃ f,gu name l=some f
 | f::l,h=>by
  simp only [gu]
  cases e:(f.name==name)
  ·simp only [Bool.false_eq_true,if_false]
   refine zZ ?_
   rcases List.mem_cons.1 h with h | h
   ·rw [h]at e;simp at e
   ·exact h
  ·exact⟨f,rfl⟩
theorem z1 {p:Pg} {f:Pc} {procs:List aD} : ∀ {l:List Sm},rJ p f procs l=none→∀ v∈l,v.known p f procs=true
 | v::l,h,w,m=>by
  simp only [rJ]at h
  split at h
  ·rename_i e
   rcases List.mem_cons.1 m with rfl | m
   ·exact e
   ·exact z1 h w m
  ·cases h
theorem z6 {p:Pg} {procs:List aD} : ∀ {l:List Pc},((nD p procs l).1==0)=true→∀ f∈l,er (p.globals++f.own)=false∧∀ v∈Sm.dm f.body,v.known p f procs=true
 | g::l,h,f,m=>by
  simp only [nD]at h
  split at h
  ·cases h
  ·rename_i e
   split at h
   ·cases h
   ·rename_i e2
    rcases List.mem_cons.1 m with rfl | m
    ·exact⟨by simpa using e,z1 e2⟩
    ·exact z6 h f m
theorem wQ {p:Pg} (h:(p.scope.1==0)=true):er p.globals=false∧er p.pn=false∧p.oX=false∧∀ f∈p.procs,er (p.globals++f.own)=false∧∀ v∈Sm.dm f.body,v.known p f p.pn=true:=by
 unfold Pg.scope at h
 split at h
 ·split at h
  ·cases h
  ·rename_i e
   simp only [Bool.or_eq_true,not_or,Bool.not_eq_true]at e
   exact⟨e.1,e.2.1,e.2.2,z6 h⟩
 ·cases h
theorem rN {x:aD} : ∀ {l:List Sm},x∈gh l↔∃ v∈l,v.kind=4∧v.proc=x
 | []=>by simp [gh]
 | v::l=>by
  simp only [gh]
  cases e:(v.kind==4)
  ·have:v.kind≠4:=by simpa using e
   simp [this,rN (l:=l)]
  ·have:v.kind=4:=by simpa using e
   simp only [if_true,List.mem_cons,rN (l:=l),exists_eq_or_imp,this,true_and]
   constructor
   ·rintro(h | h)
    ·exact .inl h.symm
    ·exact .inr h
   ·rintro(h | h)
    ·exact .inl h.symm
    ·exact .inr h
theorem IW {f:Pc} {x:aD} : x∈f.calls↔∃ v∈Sm.dm f.body,v.kind=4∧v.proc=x:=by
 unfold Pc.calls;rw [(gS _).2,rN]
theorem wb {p:Pg} (h:(p.scope.1==0)=true) {f:Pc} (hf:f∈p.procs) {x:aD} (m:x∈f.calls) : ∃ g,p.find x=some g:=by
 obtain⟨v,hv,h4,rfl⟩:=IW.1 m
 have hk:=((wQ h).2.2.2 f hf).2 v hv
 simp only [Sm.known,h4,Bool.and_eq_true,Bool.or_eq_true]at hk
 rcases hk.2 with h | ⟨_,h⟩
 ·simp at h
 ·exact zZ ((hO _ _).1 h)
def qq (p:Pg) (x:aD):List aD:=match p.find x with | some f=>f.calls | none=> []
def wR (out:List aD):List aD→List aD
 | []=>out
 | x::l=>wR (vw out x) l
def nG (p:Pg):Nat→Nat→List aD→List aD
 | 0,_,out=>out
 | n+1,i,out=>match out[i]? with
  | some x=>nG p n (i+1) (wR out (qq p x))
  | none=>out
def Pg.work (p:Pg) (name:aD):List aD:=nG p (p.procs.length+1) 0 [name]
def Good (p:Pg) (out:List aD):Prop:=out.Nodup∧∀ x∈out,∃ f,p.find x=some f
theorem Good.len {p:Pg} {out:List aD} (h:Good p out):out.length≤p.procs.length:=by
 have:=q6 out p.pn h.1 fun x m=>by
  obtain⟨f,hf⟩:=h.2 x m
  obtain⟨h1,h2⟩:=lG hf
  rw [← h2];exact List.mem_map_of_mem h1
 simpa [Pg.pn]using this
theorem Good.T2 {p:Pg} {out:List aD} (h:Good p out) {x:aD} (hx : ∃ f,p.find x=some f):Good p (vw out x):=by
 unfold vw
 split
 ·exact h
 ·rename_i e
  have:x∉out:=fun m=>e ((hO _ _).2 m)
  refine⟨List.nodup_append.2 ⟨h.1,by simp,fun a ha b hb e'=> ?_⟩,fun y hy=> ?_⟩
  ·have hbx:b=x:=by simpa using hb
   rw [e',hbx]at ha;exact this ha
  ·rcases List.mem_append.1 hy with hy | hy
   ·exact h.2 y hy
   ·have:y=x:=by simpa using hy
    subst this;exact hx
theorem Good.add {p:Pg} : ∀ {l out:List aD},Good p out→(∀ x∈l,∃ f,p.find x=some f)→Good p (wR out l)
 | [],out,h,_=>h
 | x::l,out,h,hx=>Good.add (l:=l) (out:=vw out x) (Good.T2 h (hx x List.mem_cons_self)) fun y m=>hx y (List.mem_cons_of_mem _ m)
end Go.Abs

/-! Tc3 -/

namespace Go.Abs
open Go.Proofs
def tgB:Bool→Tag
 | true=> .tok 0
 | false=> .full
def tkB:Bool→Nat→List (Option Nat)
 | true,n=> [some n]
 | false,_=> []
end Go.Abs

/-! Bsl -/

namespace Go.Abs
def sX:AI→AI
 | .op d g (.c7 z k n ps)=> .op d g (.p6 z k n ps)
 | a=>a
section
variable {P:Program}
theorem Dz {nt:Nat} {ops:Array Oper} {i:Nat} {o:Oper} {ai:AI} (hi:ops[i]? = some o) (hc:cI P nt ops o=some ai)
 {M:Map} {s:St} {w:World} {tm:Tm} {act:Act} (r:Rel M s w) (iY:Laid M s w) (ht:jo M s tm act.tmps) {K':Tm→St→Prop} (h:fM P [sX ai] K' tm s)
 {K:Act→World→Prop} {Q:Exit→Act→World→Prop}
 (hK : ∀ d v s1 w1 M1,K' (tm.put ai.dst d) s1→Ext M s w M1 s1 w1→Rel M1 s1 w1→RD M1 s1 d v→K (act.put o.dst v) w1):wpOp P ops Q i K act w:=by
 by_cases hb : ∃ d g z k n ps,ai = .op d g (.c7 z k n ps)
 ·obtain⟨d0,g0,z,k,n,ps,rfl⟩:=hb
  obtain⟨g,hg,_,hb⟩:=uz hc
  rw [oL hb]at hK
  simp only [wpOp,hi]
  have skip:K' (tm.put o.dst (.tuple [])) s→K (act.put o.dst Go.undef) w:=fun hk=>hK _ _ _ _ _ hk (Ext.refl M s w) r .undef
  have hd:=oL hb
  simp only [AI.dst]at hd
  subst hd
  have kH:w6 P o=some (.c7 z k n ps)∧g0=g:=by
   unfold om at hb
   split at hb
   ·split at hb
    ·obtain⟨xs,_,h⟩:=map_some hb;cases h
    ·cases hb
   ·obtain⟨xs,_,h⟩:=map_some hb;cases h
   ·split at hb
    ·cases hb
    ·split at hb
     ·rename_i kH
      simp only [Option.some.injEq,AI.op.injEq,true_and]at hb
      obtain⟨h1,h2⟩:=hb
      split at h2
      ·cases h2
      ·cases h2;exact⟨kH,h1.symm⟩
     ·rename_i ao dP kH
      simp only [Option.some.injEq,AI.op.injEq,true_and]at hb
      obtain⟨h1,h2⟩:=hb
      subst h2
      exact⟨kH,h1.symm⟩
     ·cases hb
  obtain⟨kH,rfl⟩:=kH
  simp only [sX,fM]at h
  rcases gJ hg ht h with ⟨hw,hA⟩ | ⟨hw,hB⟩
  ·simp only [hw,if_true]
   left
   split at hA
   ·rename_i d s' mK
    obtain⟨v,w',M',dd,r',hv,e'⟩:=sJ kH r ht mK
    unfold Oper.wp
    rcases dd with dd | ⟨dd,rfl⟩
    ·rw [dd,Oper.upon_value]
     exact hK _ _ _ _ _ hA e' r' hv
    ·rw [dd,Oper.upon_skip]
     exact hK _ _ _ _ _ hA e' r' hv
   ·exact hA.elim
  ·simp only [hw]
   exact skip hB
 ·have hs:sX ai=ai:=by
   unfold sX
   split
   ·rename_i d g z k n ps;exact absurd ⟨d,g,z,k,n,ps,rfl⟩ hb
   ·rfl
  rw [hs]at h
  exact rp hi hc r iY ht h hK
theorem Oj {a:AI} {r:List AI} {K:Tm→St→Prop} {tm:Tm} {s:St} (h:fM P (a::r) K tm s):fM P [a] (fM P r K) tm s:=by
 cases a <;> exact h
theorem z7 {B:fw} {nt:Nat} {ops:Array Oper} {Q:Exit→Tm→St→Prop} : ∀ (l:List Nat) (ol:List Oper) (is:List AI),l.map (ops[·]?)=ol.map some→mW P nt ops ol=some is→
 ∀ (tm:Tm) (s:St) (act:Act) (w:World),fM P (is.map sX) (Q .normal) tm s→Holds B nt tm s act w→wpOps P ops (lY B nt Q) l act w
 | [],[],is,_,hc,tm,s,act,w,h,hh=>by cases hc;exact⟨tm,s,h,hh⟩
 | [],_::_,_,hl,_,_,_,_,_,_,_=>by simp at hl
 | _::_,[],_,hl,_,_,_,_,_,_,_=>by simp at hl
 | i::l,o::ol,is,hl,hc,tm,s,act,w,h,hh=>by
  simp only [List.map_cons,List.cons.injEq]at hl
  obtain⟨hi,hl⟩:=hl
  unfold mW at hc
  split at hc
  ·rename_i ai Hb h1 h2
   cases hc
   obtain⟨M,e,r,ht,hn,hd⟩:=hh
   have my:=sb h1
   have hdd:=oM h1
   rw [List.map_cons]at h
   have key:=Dz (K:=fun act w=>wpOps P ops (lY B nt Q) l act w) (Q:=lY B nt Q) hi h1 r (B.laid.ext e) ht (Oj h) (fun d v s1 w1 M1 hk e1 r1 hv=>
    z7 (Q:=Q) l ol Hb hl h2 _ _ _ _ hk (hdd ▸ Holds.put e ht hn hd my e1 r1 hv))
   simpa only [wpOps,wpOp,hi]using key
  ·cases hc
theorem Sem.swap {B:fw} {nt:Nat} {is:List AI} {Q:Exit→Tm→St→Prop} {tm:Tm} {s:St} (h:iT P B nt (.run (is.map sX)) Q tm s):Sem P B nt (.run is) Q tm s:=by
 intro c hc act w hh
 obtain⟨id,ops,rfl,hi⟩:=jr hc
 refine wp_region ?_
 exact z7 _ _ is (uv ops) hi tm s act w (kS h) hh
end
end Go.Abs

/-! Tc4 -/

namespace Go.Abs
set_option maxRecDepth 8000
open Go.Proofs
theorem Gm {l:List aD} (h:l.Nodup):jz l=gv l:=by
 refine rL ?_ (gS l).1 fun x=> ?_
 ·have h1:=zY l
  have h2:(jz l).Nodup:=(List.mergeSort_perm l _).nodup_iff.2 h
  refine(List.pairwise_and_iff.2 ⟨h1,h2⟩).imp fun {a b} MP=> ?_
  rcases sx a b with e | e | e
  ·exact e
  ·exact absurd e MP.2
  ·rw [MP.1]at e;cases e
 ·rw [(gS l).2];exact(List.mergeSort_perm l _).mem_iff
theorem u7 {p:Pg} (kQ:(p.scope.1==0)=true) : ∀ (n i:Nat) (out:List aD),Good p out→Good p (nG p n i out)
 | 0,i,out,h=>h
 | n+1,i,out,h=>by
  simp only [nG]
  split
  ·rename_i x hx
   obtain⟨g,hg⟩:=h.2 x (List.mem_of_getElem? hx)
   refine u7 kQ n _ _ (h.add fun y m=> ?_)
   unfold qq at m
   rw [hg]at m
   exact wb kQ (lG hg).1 m
  ·exact h
theorem wS {p:Pg} {name:aD} {f:Pc} (hf:p.find name=some f):Good p [name]:=
 ⟨by simp,fun x m=>by
  have:x=name:=by simpa using m
  subst this;exact⟨f,hf⟩⟩
theorem S2 {p:Pg} (h:p.jy) (kQ:(p.scope.1==0)=true) {name:aD} {f:Pc} (hf:p.find name=some f) (s:St):aI Try.prog rC [.dc (ja p) 0, .str name] s (.slice .shared 1 ((gv (p.work name)).map encStr)) s:=by
 refine aI.pure ?_ (by simp [D.bI,D.ok,yQ]) (by simp only [D.ok,Tag.ok,fc];rfl) s
 obtain⟨sa,qW,sr⟩:=h.procs
 obtain⟨R,hR⟩ : ∃ R,p.work name=R:=⟨_,rfl⟩
 have T3:Good p R:=hR ▸ u7 kQ _ _ _ (wS hf)
 rw [hR, ← Gm T3.1]
 unfold Pg.work at hR
 have hg0:Good p [name]:=wS hf
 have QY:=T3.len
 unfold S0
 obtain⟨fn,tC,Ct⟩:=Az
 refine aI.intro ⟨fn,tC,Ct⟩ (Nat.le_of_ble_eq_true rfl) fun B hB=> ?_
 generalize hQ:n6 (⟨[],[]⟩:St).av.length (⟨[],[]⟩:St).aw.length _ _ (⟨[],[]⟩:St)=Q
 have⟨hD,hJ,hP,hZ⟩:=b7
 refine Sem.o9 ?_
 repeat' (first
 | simp only [go_sem,hD,hJ,hP,hZ]
 | (with_reducible refine aJ hQ ?_;simp only [az,aB,Option.some.injEq,exists_eq_left',go_sem,hD,hJ,hP,hZ];repeat' (first | exact Ok.out | with_reducible refine aR ?_ ?_ | (simp;done))))
 refine Sem.seq (Sem.swap ?_)
 simp only [List.map_cons,List.map_nil,sX]
 repeat' (first
 | simp only [go_sem,hD,hJ,hP,hZ]
 | (with_reducible refine aJ hQ ?_;simp only [az,aB,Option.some.injEq,exists_eq_left',go_sem,hD,hJ,hP,hZ];repeat' (first | exact Ok.out | with_reducible refine aR ?_ ?_ | (simp;done))))
 refine Sem.o9 ?_
 repeat' (first
 | simp only [go_sem,hD,hJ,hP,hZ]
 | (with_reducible refine aJ hQ ?_;simp only [az,aB,Option.some.injEq,exists_eq_left',go_sem,hD,hJ,hP,hZ];repeat' (first | exact Ok.out | with_reducible refine aR ?_ ?_ | (simp;done))))
 refine dG 0 1 (bq.ind (ι:=Nat×Nat×List aD×Nat) (fun i=>nG p i.1 i.2.1 i.2.2.1=R∧Good p i.2.2.1∧i.1+i.2.1=p.procs.length+1∧i.2.2.2=i.2.2.1.length) (fun i=>i.1)
  (fun i=> [(0, .dc (ja p) 0),(5, .slice (.tok 0) 1 (i.2.2.1.map encStr)),(6, .int .i64 (i.2.1:Int))]) (fun i=>⟨[],[some i.2.2.2]⟩) ?_ (p.procs.length+1,0,[name],1) ⟨hR,hg0,rfl,rfl⟩)
 rintro⟨n,i,out,no⟩ ⟨h1,h2,h3,h4⟩ IH
 dsimp only at h1 h2 h3 h4
 subst h4
 have lV:=h2.len
 cases hx:out[i]? with
 | none=>
  have hD:decide ((i:Int)<(out.length:Int))=false:=by have:=List.getElem?_eq_none_iff.1 hx;simp;omega
  have:R=out:=by
   cases n with
   | zero=>simpa [nG]using h1.symm
   | succ n=>simp only [nG,hx]at h1;exact h1.symm
  subst this
  repeat' (first
 | simp only [go_sem,hD,hJ,hP,hZ]
 | (with_reducible refine aJ hQ ?_;simp only [az,aB,Option.some.injEq,exists_eq_left',go_sem,hD,hJ,hP,hZ];repeat' (first | exact Ok.out | with_reducible refine aR ?_ ?_ | (simp;done))))
  refine Sem.seq (Sem.sort (k:=5) (t:=0) (l:=R) hB (by decide) (by decide) (by decide) rfl rfl (by omega) ?_)
  refine gO (ac:=TR) (Q:=Q) (tm:= [(5, .slice (.tok 0) 1 ((jz R).map encStr))]) (s:=⟨[],[some R.length]⟩) ?_
  repeat' (first
 | simp only [go_sem,hD,hJ,hP,hZ]
 | (with_reducible refine aJ hQ ?_;simp only [az,aB,Option.some.injEq,exists_eq_left',go_sem,hD,hJ,hP,hZ];repeat' (first | exact Ok.out | with_reducible refine aR ?_ ?_ | (simp;done))))
 | some x=>
  have nc:=(List.getElem?_eq_some_iff.1 hx).1
  have hD:decide ((i:Int)<(out.length:Int))=true:=by simp;omega
  have ur:i<4611686018427387904:=by omega
  cases n with
  | zero=>omega
  | succ n=>
  simp only [nG,hx]at h1
  obtain⟨g,CA⟩:=h2.2 x (List.mem_of_getElem? hx)
  have QZ:=(lG CA).1
  have MX:=fun s=>Oi h CA s
  have hcn:qq p x=g.calls:=by unfold qq;rw [CA]
  rw [hcn]at h1
  have T4 : ∀ y∈g.calls,∃ f,p.find y=some f:=fun y m=>wb kQ QZ m
  have aec:g.calls.length≤p.procs.length:=Good.len ⟨pU (gS _).1,T4⟩
  obtain⟨W,hW⟩ : ∃ W,wR out g.calls=W:=⟨_,rfl⟩
  rw [hW]at h1
  repeat' (first
 | simp only [go_sem,hD,hJ,hP,hZ,hx]
 | (with_reducible refine CU (MX _) ?_)
 | (with_reducible refine aJ hQ ?_;simp only [az,aB,Option.some.injEq,exists_eq_left',go_sem,hD,hJ,hP,hZ];repeat' (first | exact Ok.out | with_reducible refine aR ?_ ?_ | (simp;done))))
  refine dG 0 1 (bq.ind (ι:=List aD×Nat×List aD×Nat) (fun j=>g.calls.drop j.2.1=j.1∧wR j.2.2.1 j.1=W∧Good p j.2.2.1∧j.2.2.2=j.2.2.1.length) (fun j=>j.1.length)
   (fun j=> [(0, .dc (ja p) 0),(5, .slice (.tok 0) 1 (j.2.2.1.map encStr)),(6, .int .i64 (i:Int)),(22, .slice .shared 1 (g.calls.map encStr)),(23, .int .i64 (g.calls.length:Int)),(24, .int .i64 (j.2.1:Int))]) (fun j=>⟨[],[some j.2.2.2]⟩) ?_ (g.calls,0,out,out.length) ⟨rfl,hW,h2,rfl⟩)
  clear hW
  rintro⟨rest,k,bD,n'⟩ ⟨j1,j2,j3,j4⟩ MT
  dsimp only at j1 j2 j3 j4
  subst j4
  have aed:=j3.len
  cases rest with
  | nil=>
   have Wp:=drop_nil j1
   simp only [wR]at j2
   subst j2
   repeat' (first
 | simp only [go_sem,hD,hJ,hP,hZ,Wp]
 | (with_reducible refine aJ hQ ?_;simp only [az,aB,Option.some.injEq,exists_eq_left',go_sem,hD,hJ,hP,hZ];repeat' (first | exact Ok.out | with_reducible refine aR ?_ ?_ | (simp;done))))
   refine dt 0 1 ?_ ?_ (IH (n,i+1,bD,bD.length) ⟨h1,j3,by dsimp only;omega,rfl⟩ (Nat.lt_succ_self _))
   ·(simp only [go_sem,hD,hJ,hP,hZ,aF ur];try exact br)
   ·(simp only [go_sem,hD,hJ,hP,hZ,aF ur];try exact br)
  | cons y rest=>
   obtain⟨nE,D2,uW,TV⟩:=drop_cons j1
   have sv:k<4611686018427387904:=by omega
   have hP:(bD.length+1)*17≤bt:=by unfold bt;omega
   have IX:=fun g s=>gL (l:=bD) (by omega) y g s
   have hy:=T4 y (List.mem_of_getElem? nE)
   have vV:=j3.T2 hy
   simp only [wR]at j2
   rcases Bool.eq_false_or_eq_true (dY bD y)with c1 | c1
   ·simp only [vw,c1,if_true]at j2
    repeat' (first
 | simp only [go_sem,hD,hJ,hP,hZ,uW,nE,c1]
 | (with_reducible refine CU (IX _ _) ?_)
 | (with_reducible refine aJ hQ ?_;simp only [az,aB,Option.some.injEq,exists_eq_left',go_sem,hD,hJ,hP,hZ];repeat' (first | exact Ok.out | with_reducible refine aR ?_ ?_ | (simp;done))))
    refine dt 0 1 ?_ ?_ (MT (rest,k+1,bD,bD.length) ⟨D2,j2,j3,rfl⟩ (Nat.lt_succ_self _))
    ·(simp only [go_sem,hD,hJ,hP,hZ,aF sv];try exact br)
    ·(simp only [go_sem,hD,hJ,hP,hZ,aF sv];try exact br)
   ·simp only [vw,c1,Bool.false_eq_true,if_false]at j2 vV
    repeat' (first
 | simp only [go_sem,hD,hJ,hP,hZ,uW,nE,c1]
 | (with_reducible refine CU (IX _ _) ?_)
 | (with_reducible refine aJ hQ ?_;simp only [az,aB,Option.some.injEq,exists_eq_left',go_sem,hD,hJ,hP,hZ];repeat' (first | exact Ok.out | with_reducible refine aR ?_ ?_ | (simp;done))))
    refine dt 0 1 ?_ ?_ (MT (rest,k+1,bD++ [y],bD.length+1) ⟨D2,j2,vV,by simp⟩ (Nat.lt_succ_self _))
    ·(simp only [go_sem,hD,hJ,hP,hZ,aF sv,List.map_append,List.map_cons,List.map_nil,encStr];try exact br)
    ·(simp only [go_sem,hD,hJ,hP,hZ,aF sv,List.map_append,List.map_cons,List.map_nil,encStr];try exact br)
end Go.Abs

/-! Tc5 -/

namespace Go.Abs
set_option maxRecDepth 8000
open Go.Proofs
theorem CC (name:aD) : ∀ l:List Pc,l.any (fun f=>f.name==name)=(gu name l).isSome
 | []=>rfl
 | f::l=>by
  simp only [List.any_cons,gu]
  cases e:(f.name==name)
  ·simp [CC name l]
  ·simp
theorem Lv (name:aD) (f:Pc):aI Try.prog lg ([.agg (bT f)]++ [.ptr 0 0]) ⟨[[.str name]],[]⟩ (.bool (f.name==name)) ⟨[[.str name]],[]⟩:=by
 show aI Try.prog lg [.agg (bT f), .ptr 0 0] _ _ _
 refine aI.go vI rfl fun B Q hB hQ=> ?_
 have⟨hD,hJ,hP,hZ⟩:=b7
 repeat' (first
 | simp only [go_sem,hD,hJ,hP,hZ]
 | (with_reducible refine aJ hQ ?_;simp only [az,aB,Option.some.injEq,exists_eq_left',go_sem,hD,hJ,hP,hZ];repeat' (first | exact Ok.out | with_reducible refine aR ?_ ?_ | (simp;done))))
def Pg.pA (p:Pg) (name:aD):Option Pc:=if p.scope.1==0 then p.find name else none
theorem Lw {p:Pg} (h:p.jy) (name:aD) (s:St):aI Try.prog pe [.agg (bP p), .str name] s (.bool (p.pA name).isSome) s:=by
 refine aI.pure ?_ (by simp [D.bI,D.ok,iU]) rfl s
 obtain⟨sa,qW,sr⟩:=h.procs
 have oI:=fun s=>wN h s
 have hi:=fun {s:St} {o:Nat} (ho:s.av[o]? = some [.str name])=>uO (tO (l:=p.procs) (f:=lg) (row:= [.str name]) (b:=fun f:Pc=>f.name==name) (by omega) rfl (by with_unfolding_all rfl) (fun x _=>Lv name x)) rfl (A1 _) rfl ho
 have gj:=fun {s:St} {o:Nat} (ho:s.av[o]? = some [.str name])=>(show aI Try.prog fe [.slice .shared 5 (p.procs.map bT), .fi 64 [.ptr o 0]] s (.bool (p.procs.any fun f:Pc=>f.name==name)) s from hi ho)
 simp only [CC]at gj
 unfold Pg.pA Pg.find
 unfold S0
 rcases Bool.eq_false_or_eq_true (p.scope.1==0)with b1 | b1
 ·simp only [b1,if_true]
  refine aI.go qS rfl fun B Q hB hQ=> ?_
  have⟨hD,hJ,hP,hZ⟩:=b7
  repeat' (first
 | simp only [go_sem,hD,hJ,hP,hZ,b1]
 | (with_reducible refine CU (oI _) ?_)
 | (with_reducible refine CU (gj (by with_unfolding_all rfl)) ?_)
 | (with_reducible refine aJ hQ ?_;simp only [az,aB,Option.some.injEq,exists_eq_left',go_sem,hD,hJ,hP,hZ];repeat' (first | exact Ok.out | with_reducible refine aR ?_ ?_ | (simp;done))))
 ·simp only [b1,Bool.false_eq_true,if_false,Option.isSome_none]
  refine aI.go qS rfl fun B Q hB hQ=> ?_
  have⟨hD,hJ,hP,hZ⟩:=b7
  repeat' (first
 | simp only [go_sem,hD,hJ,hP,hZ,b1]
 | (with_reducible refine CU (oI _) ?_)
 | (with_reducible refine CU (gj (by with_unfolding_all rfl)) ?_)
 | (with_reducible refine aJ hQ ?_;simp only [az,aB,Option.some.injEq,exists_eq_left',go_sem,hD,hJ,hP,hZ];repeat' (first | exact Ok.out | with_reducible refine aR ?_ ?_ | (simp;done))))
def Pg.ac0 (p:Pg) (name:aD):List aD:=match p.pA name with | some f=>f.calls | none=> []
def Pg.Wq (p:Pg) (name:aD):List aD:=match p.pA name with | some _=>gv (p.work name) | none=> []
theorem u9 {p:Pg} {name:aD} {f:Pc} (h:p.pA name=some f):(p.scope.1==0)=true∧p.find name=some f:=by
 unfold Pg.pA at h
 split at h
 ·exact⟨by assumption,h⟩
 ·cases h
end Go.Abs
