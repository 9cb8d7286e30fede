/-
  What is proved here: part 3 of the road to the claim (Flat3, Sl1, MirFlat2, Sl2, TMay1, TMay2, RefMay3, RefMay4, TMay3, TMay4, MayFine, MayEq, Nm1, Nm2, Nm3, MayEq2, Tree1, Tree2, Sc1, Sc2, Sc3, ScP, Sc4, Rng, FineM, Sc5, Ar1, Ar2, Ar3, Srt1, Shelf, SortR, SrtP, Tc1, Tc2, Tc3, Bsl, Tc4, Tc5, Tc6, FlP, JmpP).
  No conditions.
-/
import Derived.Test.YtiopamakecmpkaaGreatCkV2
import Derived.Shelf.Small.Bits
import Derived.Shelf.Strconv.Itoa0
import Derived.Shelf.Sort.Plain
import Derived.Shelf.Slices.Turned
import Derived.Ground.Names2Prog
import Derived.Shelf.Slices.Clone
import Derived.Shelf.Slices.CompactS
import Derived.Shelf.Slices.Cells
import Derived.Shelf.Slices.In.SortNone
import Derived.Ground.SlgnProg
import Derived.Shelf.SlicesE.Clone
import Derived.Test.YtiopamakecmpkaaGreatProg
import Derived.Sort.Walk0

set_option linter.unusedSimpArgs false
set_option linter.unusedVariables false
namespace Go.Abs
set_option maxRecDepth 8000
open Go.Proofs
def jo (p:Pg):List D:= [.slice .shared 1 (p.globals.map encStr), .slice .shared 5 (p.procs.map cH), .slice .shared 17 (p.fR.L.map fD), .slice .shared 1 (p.fR.lo.map nJ), .slice .shared 1 (p.fR.hi.map nJ)]
theorem uf (p:Pg):jo p = [.slice .shared 1 (p.globals.map encStr), .slice .shared 5 (p.procs.map cH), .slice .shared 17 (p.fR.L.map fD), .slice .shared 1 (p.fR.lo.map nJ), .slice .shared 1 (p.fR.hi.map nJ)]:=nd rfl
theorem Bs (p:Pg):D.bN 0 0 (jo p)=true:=by simp[jo,D.bN,D.ok,Tag.ok,fw,Kz,KS,Db]
theorem UN (p:Pg):bY p = [.slice .shared 1 (p.globals.map encStr), .slice .shared 5 (p.procs.map cH)]:=nd rfl
theorem aiM {p:Pg} (hs:Pc.aT p.procs<1000000000):aA Tryz.prog nH [.agg (bY p)] S0 (.ptr 1 0) ⟨[bY p,jI (.slice .shared 1 (p.globals.map encStr)) (.slice .shared 5 (p.procs.map cH)) p.fR.L p.fR.lo p.fR.hi],[some p.fR.L.length,some p.fR.lo.length,some p.fR.hi.length]⟩:=by
 have hlen:p.procs.length<1000000000:=by have:=Pc.cu p.procs;omega
 obtain⟨R,hR⟩ : ∃ R,R=p.fR:=⟨_,rfl⟩
 have hR':=hR
 unfold Pg.fR at hR'
 unfold S0
 rw[UN, ← hR]
 refine aA.goK 2 3 (Nat.zero_le _) (Nat.zero_le _) L9 rfl fun B Q hB hQ=>?_
 have⟨hY,hZ,gA,gB⟩:=bu
 repeat' (first
 |simp only[go_sem,hY,hZ,gA,gB,UN]
 |(with_reducible refine aB hQ ?_;exact aU))
 refine bn.xn 1 2 17 rfl rfl ?_
 simp only[go_sem,hY,hZ,gA,gB]
 refine bn.xn 1 3 1 rfl rfl ?_
 simp only[go_sem,hY,hZ,gA,gB]
 refine bn.xn 1 4 1 rfl rfl ?_
 simp only[go_sem,hY,hZ,gA,gB]
 refine eQ 2 3 ?_ ?_ (bn.ind (ι:=List Pc×Nat×Sh×Nat×Nat) (fun i=>p.procs.drop i.2.1=i.1∧Sh.go i.2.1 i.2.2.1 i.1=R∧i.2.2.1.L.length+Pc.aT i.1≤Pc.aT p.procs∧i.2.2.1.lo.length=i.2.1∧i.2.2.1.hi.length=i.2.1∧i.2.2.2.1=i.2.2.1.lo.length∧i.2.2.2.2=i.2.2.1.hi.length) (fun i=>i.1.length)
  (fun i=> [(1, .ptr 0 0),(3, .ptr 1 0),(10, .slice .shared 5 (p.procs.map cH)),(11, .int .i64 (p.procs.length:Int)),(12, .int .i64 (i.2.1:Int))]) (fun i=>⟨[[.slice .shared 1 (p.globals.map encStr), .slice .shared 5 (p.procs.map cH)],jI (.slice .shared 1 (p.globals.map encStr)) (.slice .shared 5 (p.procs.map cH)) i.2.2.1.L i.2.2.1.lo i.2.2.1.hi],[some i.2.2.1.L.length,some i.2.2.2.1,some i.2.2.2.2]⟩) ?_ (p.procs,0,⟨[],[],[]⟩,0,0) ⟨rfl,hR'.symm,by simp,rfl,rfl,rfl,rfl⟩)
 ·(simp only[go_sem,hY,hZ,gA,gB,jI];try exact bQ)
 ·(simp only[go_sem,hY,hZ,gA,gB,jI];try exact bQ)
 rintro⟨rest,k,h,n1,n2⟩ ⟨h1,h2,h3,h4,h5,h6,h7⟩ IH
 dsimp only at h1 h2 h3 h4 h5 h6 h7
 subst h6 h7
 cases rest with
 |nil=>
  have hY:=drop_nil h1
  simp only[Sh.go]at h2
  rw[← h2]at hQ
  repeat' (first
 |simp only[go_sem,hY,hZ,gA,gB,jI]
 |(with_reducible refine aB hQ ?_;exact aU))
 |cons f rest=>
  obtain⟨hZ,g2,hY,g4⟩:=drop_cons h1
  have cd:k<4611686018427387904:=by omega
  simp only[Pc.aT,Pc.size]at h3
  simp only[Sh.go]at h2
  have c1:=mn f.body
  have gA:(h.lo.length+1)*9≤aF:=by unfold aF;omega
  have at1:(h.hi.length+1)*9≤aF:=by unfold aF;omega
  have O9:IntKind.wrap .i64 ((h.L.length:Int)+1)=(h.L.length:Int)+1:=bC (by omega) (by omega)
  have hl:(Im.rows (k:Int) 0 (-1) 0 h.L f.body).length=h.L.length+Sm.fj f.body:=iw ..
  have sj:IntKind.wrap .i64 (((Im.rows (k:Int) 0 (-1) 0 h.L f.body).length:Int)+1)=((Im.rows (k:Int) 0 (-1) 0 h.L f.body).length:Int)+1:=bC (by omega) (by omega)
  have hr:=fun {s:St} {o:Nat}=>@aca (Sm.aT f.body+1) (by omega) f.body (k:Int) 0 (-1) 0 h.L (.slice .shared 1 (p.globals.map encStr)) (.slice .shared 5 (p.procs.map cH)) (h.lo++ [(h.L.length:Int)+1]) h.hi (some (h.lo.length+1)) (some h.hi.length) (Nat.lt_succ_self _) (by omega) (by simp[D.ok,Tag.ok,fw]) (by simp[D.ok,Tag.ok,Kz]) s o
  simp only[jI,List.map_append,List.map_cons,List.map_nil,nJ]at hr
  repeat' (first
 |simp only[go_sem,hY,hZ,gA,gB,O9,sj,at1,jI]
 |(with_reducible refine CU (hr (by with_unfolding_all rfl) (by with_unfolding_all rfl)) ?_)
 |(with_reducible refine aB hQ ?_;exact aU))
  refine eQ 2 3 ?_ ?_ (IH (rest,k+1,⟨Im.rows (k:Int) 0 (-1) 0 h.L f.body,h.lo++ [(h.L.length:Int)+1],h.hi++ [((Im.rows (k:Int) 0 (-1) 0 h.L f.body).length:Int)+1]⟩,_,_) ⟨g2,h2,by dsimp only;rw[hl];omega,by simp[h4],by simp[h5],by simp,by simp⟩ (Nat.lt_succ_self _))
  ·(simp only[go_sem,hY,hZ,gA,gB,jI,aM cd,List.map_append,List.map_cons,List.map_nil,nJ];try exact bQ)
  ·(simp only[go_sem,hY,hZ,gA,gB,jI,aM cd,List.map_append,List.map_cons,List.map_nil,nJ];try exact bQ)
theorem GC {p:Pg} (hs:Pc.aT p.procs<1000000000) (s:St):aA Tryz.prog nH [.agg (bY p)] s (.eJ (jo p) 0) s:=by
 refine aA.pure ?_ (by simp only[D.bN,D.ok,jP];rfl) (by simp only[D.ok,Bs]) s
 have h:=(aiM hs).Co (n:=0) (m:=0) rfl (Nat.le_refl _) (Nat.zero_le _) (Nat.le_refl _)
 simpa[D.je,D.fg,Tag.fg,Uw,Z6,aaH,UL,St.cut,jo,S0]using h
set_option maxRecDepth 8000
open Go.Proofs
def pT (x:ay) (k:Int):List ay→Int
 | []=> -1
 |s::l=>if x==s then k else pT x (k+1) l
def fM (l:List ay) (x:ay):Bool:=decide (pT x 0 l≥0)
def n5 {α:Type} (b:α→Bool) (k:Int):List α→Int
 | []=> -1
 |s::l=>if b s then k else n5 b (k+1) l
theorem Pa (x:ay) : ∀ (l:List ay) (k:Int),0≤k→(pT x k l≥0↔x∈l)
 | [],k,h=>by simp[pT]
 | s::l,k,h=>by
  by_cases e:x=s
  ·simp[pT,e];omega
  ·have e':(x==s)=false:=by simp [e]
   simp only[pT,e',Bool.false_eq_true,if_false,List.mem_cons,e,false_or]
   exact Pa x l (k+1) (by omega)
theorem kY (l:List ay) (x:ay):fM l x=true↔x∈l:=by
 simp only[fM,decide_eq_true_eq];exact Pa x l 0 (Int.le_refl 0)
theorem Ig {α:Type} (b:α→Bool) : ∀ (l:List α) (k:Int),0≤k→(n5 b k l≥0↔l.any b=true)
 | [],k,h=>by simp[n5]
 | s::l,k,h=>by
  by_cases e:b s=true
  ·simp[n5,e];omega
  ·have e':b s=false:=by simpa using e
   simp only[n5,e',Bool.false_eq_true,if_false,List.any_cons,Bool.or_eq_true,false_or]
   exact Ig b l (k+1) (by omega)
theorem Pb {l:List ay} (hl:l.length<4611686018427387904) (x:ay) (s:St):aA Tryz.prog jZ [.slice .shared 1 (l.map encStr), .str x] s (.int .i64 (pT x 0 l)) s:=by
 refine aA.pure ?_ (by simp[D.bN,D.ok,Tag.ok,fw]) rfl s
 generalize h:pT x 0 l=p
 unfold S0
 refine aA.go x9 rfl fun B Q hB hQ=>?_
 have⟨hY,hZ,gA,gB⟩:=bu
 repeat' (first
 |simp only[go_sem,hY,hZ,gA,gB]
 |(with_reducible first|refine bq fun hc=>?_|refine br fun hc=>?_|refine bt (fun hc=>?_) fun hc=>?_)<;>(try simp only[hc,bs,↓reduceIte]at h)<;>try simp only[hc]
 |(with_reducible refine aB hQ ?_;exact eo))
 refine cq 0 0 (bn.ind (ι:=List ay×Nat) (fun i=>l.drop i.2=i.1∧pT x (i.2:Int) i.1=p) (fun i=>i.1.length)
  (fun i=> [(0, .slice .shared 1 (l.map encStr)),(1, .str x),(7, .int .i64 (l.length:Int)),(8, .int .i64 (i.2:Int))]) (fun i=>⟨[],[]⟩) ?_ (l,0) ⟨rfl,h⟩)
 rintro⟨rest,k⟩ ⟨h1,h⟩ IH
 dsimp only at h1 h
 cases rest with
 |nil=>
  have hY:=drop_nil h1
  simp only[pT]at h
  repeat' (first
 |simp only[go_sem,hY,hZ,gA,gB]
 |(with_reducible first|refine bq fun hc=>?_|refine br fun hc=>?_|refine bt (fun hc=>?_) fun hc=>?_)<;>(try simp only[hc,bs,↓reduceIte]at h)<;>try simp only[hc]
 |(with_reducible refine aB hQ ?_;exact eo))
 |cons a rest=>
  obtain⟨hZ,g2,hY,g4⟩:=drop_cons h1
  have cd:k<4611686018427387904:=by omega
  simp only[pT]at h
  repeat' (first
 |simp only[go_sem,hY,hZ,gA,gB]
 |(with_reducible first|refine bq fun hc=>?_|refine br fun hc=>?_|refine bt (fun hc=>?_) fun hc=>?_)<;>(try simp only[hc,bs,↓reduceIte]at h)<;>try simp only[hc]
 |(with_reducible refine aB hQ ?_;exact eo))
  refine eQ 0 0 ?_ ?_ (IH (rest,k+1) ⟨g2,h⟩ (Nat.lt_succ_self _))
  ·(simp only[go_sem,hY,hZ,gA,gB,aM cd];try exact bQ)
  ·(simp only[go_sem,hY,hZ,gA,gB,aM cd];try exact bQ)
theorem td {l:List ay} (hl:l.length<4611686018427387904) (x:ay) (s:St):aA Tryz.prog cM [.slice .shared 1 (l.map encStr), .str x] s (.bool (fM l x)) s:=by
 refine aA.pure ?_ (by simp[D.bN,D.ok,Tag.ok,fw]) rfl s
 have hi:=fun s=>Pb hl x s
 unfold S0
 refine aA.go vV rfl fun B Q hB hQ=>?_
 have⟨hY,hZ,gA,gB⟩:=bu
 repeat' (first
 |simp only[go_sem,hY,hZ,gA,gB,fM]
 |(with_reducible refine CU (hi _) ?_)
 |(with_reducible first|refine bq fun hc=>?_|refine br fun hc=>?_|refine bt (fun hc=>?_) fun hc=>?_)<;>(try simp only[hc,bs,↓reduceIte]at h)<;>try simp only[hc]
 |(with_reducible refine aB hQ ?_;simp only[cj,cr,dK,dL,go_sem,hY,hZ,gA,gB,fM];try exact dM))
theorem aA.UO {P:Program} {f:Nat} {d d':D} {r:List D} {s s':St} {x:D} (h:aA P f (d'::r) s x s') (hw:Wk d d'):aA P f (d::r) s x s':=fh.CR (.cons hw (oo.refl r)) h
theorem kr {l:List ay} (hl:l.length<4611686018427387904) (x:ay) (g:Tag) (s:St):aA Tryz.prog cM [.slice g 1 (l.map encStr), .str x] s (.bool (fM l x)) s:=
 (td hl x s).UO (Wk.shared _ _ _)
theorem Mp (x:ay) (z:Nat) (g:Tag) (s:St):aA Tryz.prog cM [.slice g z [], .str x] s (.bool false) s:=
 (td (l:= []) (by simp) x s).UO (Wk.nil _ _ _)
theorem Dc {l:List ay} (hl:l.length<4611686018427387904) {f:Nat} {row:List D} {b:ay→Bool} (wj:D.bN 0 0 row=true) (he:enters Tryz.prog f=true)
 (hb : ∀ x∈l,aA Tryz.prog f ([.str x]++ [.ptr 0 0]) ⟨[row],[]⟩ (.bool (b x)) ⟨[row],[]⟩) :
 aA Tryz.prog mb [.slice .shared 1 (l.map encStr), .iK f [.ptr 0 0]] ⟨[row],[]⟩ (.int .i64 (n5 b 0 l)) ⟨[row],[]⟩:=by
 generalize h:n5 b 0 l=p
 have k1 : ∀ n m,D.je n m row=row:=fun n m=>jx n m _ wj
 refine aA.go vk rfl fun B Q hB hQ=>?_
 have⟨hY,hZ,gA,gB⟩:=bu
 repeat' (first
 |simp only[go_sem,hY,hZ,gA,gB,k1]
 |(with_reducible first|refine bq fun hc=>?_|refine br fun hc=>?_|refine bt (fun hc=>?_) fun hc=>?_)<;>(try simp only[hc,bs,↓reduceIte]at h)<;>try simp only[hc]
 |(with_reducible refine aB hQ ?_;(try cases h);simp only[cj,cr,dK,dL,go_sem,hY,hZ,gA,gB,k1];try exact dM))
 refine eQ 1 0 ?_ ?_ (bn.ind (ι:=List ay×Nat) (fun i=>l.drop i.2=i.1∧n5 b (i.2:Int) i.1=p) (fun i=>i.1.length)
  (fun i=> [(0, .slice .shared 1 (l.map encStr)),(1, .iK f [.ptr 0 0]),(7, .int .i64 (l.length:Int)),(8, .int .i64 (i.2:Int))]) (fun i=>⟨[row],[]⟩) ?_ (l,0) ⟨rfl,h⟩)
 ·(simp only[go_sem,hY,hZ,gA,gB,k1];try exact bQ)
 ·(simp only[go_sem,hY,hZ,gA,gB,k1];try exact bQ)
 rintro⟨rest,k⟩ ⟨h1,h⟩ IH
 dsimp only at h1 h
 cases rest with
 |nil=>
  have hY:=drop_nil h1
  simp only[n5]at h
  repeat' (first
 |simp only[go_sem,hY,hZ,gA,gB,k1]
 |(with_reducible first|refine bq fun hc=>?_|refine br fun hc=>?_|refine bt (fun hc=>?_) fun hc=>?_)<;>(try simp only[hc,bs,↓reduceIte]at h)<;>try simp only[hc]
 |(with_reducible refine aB hQ ?_;(try cases h);simp only[cj,cr,dK,dL,go_sem,hY,hZ,gA,gB,k1];try exact dM))
 |cons a rest=>
  obtain⟨hZ,g2,hY,g4⟩:=drop_cons h1
  have cd:k<4611686018427387904:=by omega
  have hba:=hb a (List.mem_of_getElem? hZ)
  simp only[n5]at h
  repeat' (first
 |simp only[go_sem,hY,hZ,gA,gB,k1]
 |(with_reducible refine CV.use (he) (hba) ?_)
 |(with_reducible first|refine bq fun hc=>?_|refine br fun hc=>?_|refine bt (fun hc=>?_) fun hc=>?_)<;>(try simp only[hc,bs,↓reduceIte]at h)<;>try simp only[hc]
 |(with_reducible refine aB hQ ?_;(try cases h);simp only[cj,cr,dK,dL,go_sem,hY,hZ,gA,gB,k1];try exact dM))
  refine eQ 1 0 ?_ ?_ (IH (rest,k+1) ⟨g2,h⟩ (Nat.lt_succ_self _))
  ·(simp only[go_sem,hY,hZ,gA,gB,k1,aM cd];try exact bQ)
  ·(simp only[go_sem,hY,hZ,gA,gB,k1,aM cd];try exact bQ)
theorem Dd {P:Program} {g f:Nat} {row:List D} {rows:List (List D)} {z:Nat} {d:D} (h:aA P g [.slice .shared z rows, .iK f [.ptr 0 0]] ⟨[row],[]⟩ d ⟨[row],[]⟩) (wj:D.bN 0 0 row=true) (hw:D.kc 0 0 rows=true) (hd:D.ok 0 0 d=true) {s:St} {o:Nat} (ho:s.az[o]? = some row) :
 aA P g [.slice .shared z rows, .iK f [.ptr o 0]] s d s:=by
 refine fh.frame [o] [] h (by simp) List.nodup_nil (by simpa using (List.getElem?_eq_some_iff.1 ho).1) (by simp) rfl (fun i o' ds e1 e2=>?_) rfl (by simp) (by simp[D.iu,D.ey,Tag.ey,kD _ _ _ hw])
  (by simp[D.bN,D.ok,Tag.ok,o6 (Nat.zero_le 1) (Nat.le_refl 0) _ hw]) ?_
 ·cases i with
  |zero=>simp at e1 e2;subst e1;subst e2;exact⟨by rw[fX _ _ _ wj];exact ho,jf (Nat.zero_le 1) (Nat.le_refl 0) _ wj⟩
  |succ i=>simp at e1
 ·rintro _ _ ⟨rfl,rfl⟩
  refine⟨tW _ _ _ hd, ?_⟩
  have:s.az.set o row=s.az:=by
   apply List.ext_getElem?
   intro i
   rw[List.getElem?_set]
   split
   ·rename_i e;subst e;rw [ho];split
    ·rfl
    ·rename_i hh;exact absurd (List.getElem?_eq_some_iff.1 ho).1 hh
   ·rfl
  simp[St.back,lK,fX _ _ _ wj,this]
theorem Aw {l:List ay} (hl:l.length<4611686018427387904) {f:Nat} {row:List D} {b:ay→Bool} (wj:D.bN 0 0 row=true) (he:enters Tryz.prog f=true)
 (hb : ∀ x∈l,aA Tryz.prog f ([.str x]++ [.ptr 0 0]) ⟨[row],[]⟩ (.bool (b x)) ⟨[row],[]⟩) :
 aA Tryz.prog gJ [.slice .shared 1 (l.map encStr), .iK f [.ptr 0 0]] ⟨[row],[]⟩ (.bool (l.any b)) ⟨[row],[]⟩:=by
 have k1 : ∀ n m,D.je n m row=row:=fun n m=>jx n m _ wj
 have hi:=Dc hl wj he hb
 have e:decide (n5 b 0 l≥0)=l.any b:=by
  have:=Ig b l 0 (Int.le_refl 0)
  cases hh:l.any b<;>simp_all
 refine aA.go s8 rfl fun B Q hB hQ=>?_
 have⟨hY,hZ,gA,gB⟩:=bu
 repeat' (first
 |simp only[go_sem,hY,hZ,gA,gB,k1,e]
 |(with_reducible refine CU (hi) ?_)
 |(with_reducible first|refine bq fun hc=>?_|refine br fun hc=>?_|refine bt (fun hc=>?_) fun hc=>?_)<;>(try simp only[hc,bs,↓reduceIte]at h)<;>try simp only[hc]
 |(with_reducible refine aB hQ ?_;simp only[cj,cr,dK,dL,go_sem,hY,hZ,gA,gB,k1,e];try exact dM))
theorem Ax {l:List ay} (hl:l.length<4611686018427387904) {f:Nat} {row:List D} {b:ay→Bool} (wj:D.bN 0 0 row=true) (he:enters Tryz.prog f=true)
 (hb : ∀ x∈l,aA Tryz.prog f ([.str x]++ [.ptr 0 0]) ⟨[row],[]⟩ (.bool (b x)) ⟨[row],[]⟩) {s:St} {o:Nat} (ho:s.az[o]? = some row) :
 aA Tryz.prog gJ [.slice .shared 1 (l.map encStr), .iK f [.ptr o 0]] s (.bool (l.any b)) s:=
 Dd (Aw hl wj he hb) wj (fw l) rfl ho
theorem xP {l:List Pc} (hl:l.length<4611686018427387904) {f:Nat} {row:List D} {b:Pc→Bool} (wj:D.bN 0 0 row=true) (he:enters Tryz.prog f=true)
 (hb : ∀ x∈l,aA Tryz.prog f ([.agg (cH x)]++ [.ptr 0 0]) ⟨[row],[]⟩ (.bool (b x)) ⟨[row],[]⟩) :
 aA Tryz.prog gT [.slice .shared 5 (l.map cH), .iK f [.ptr 0 0]] ⟨[row],[]⟩ (.int .i64 (n5 b 0 l)) ⟨[row],[]⟩:=by
 generalize h:n5 b 0 l=p
 have k1 : ∀ n m,D.je n m row=row:=fun n m=>jx n m _ wj
 refine aA.go tC rfl fun B Q hB hQ=>?_
 have⟨hY,hZ,gA,gB⟩:=bu
 repeat' (first
 |simp only[go_sem,hY,hZ,gA,gB,k1]
 |(with_reducible first|refine bq fun hc=>?_|refine br fun hc=>?_|refine bt (fun hc=>?_) fun hc=>?_)<;>(try simp only[hc,bs,↓reduceIte]at h)<;>try simp only[hc]
 |(with_reducible refine aB hQ ?_;(try cases h);simp only[cj,cr,dK,dL,go_sem,hY,hZ,gA,gB,k1];try exact dM))
 refine eQ 1 0 ?_ ?_ (bn.ind (ι:=List Pc×Nat) (fun i=>l.drop i.2=i.1∧n5 b (i.2:Int) i.1=p) (fun i=>i.1.length)
  (fun i=> [(0, .slice .shared 5 (l.map cH)),(1, .iK f [.ptr 0 0]),(7, .int .i64 (l.length:Int)),(8, .int .i64 (i.2:Int))]) (fun i=>⟨[row],[]⟩) ?_ (l,0) ⟨rfl,h⟩)
 ·(simp only[go_sem,hY,hZ,gA,gB,k1];try exact bQ)
 ·(simp only[go_sem,hY,hZ,gA,gB,k1];try exact bQ)
 rintro⟨rest,k⟩ ⟨h1,h⟩ IH
 dsimp only at h1 h
 cases rest with
 |nil=>
  have hY:=drop_nil h1
  simp only[n5]at h
  repeat' (first
 |simp only[go_sem,hY,hZ,gA,gB,k1]
 |(with_reducible first|refine bq fun hc=>?_|refine br fun hc=>?_|refine bt (fun hc=>?_) fun hc=>?_)<;>(try simp only[hc,bs,↓reduceIte]at h)<;>try simp only[hc]
 |(with_reducible refine aB hQ ?_;(try cases h);simp only[cj,cr,dK,dL,go_sem,hY,hZ,gA,gB,k1];try exact dM))
 |cons a rest=>
  obtain⟨hZ,g2,hY,g4⟩:=drop_cons h1
  have cd:k<4611686018427387904:=by omega
  have hba:=hb a (List.mem_of_getElem? hZ)
  simp only[n5]at h
  repeat' (first
 |simp only[go_sem,hY,hZ,gA,gB,k1]
 |(with_reducible refine CV.use (he) (hba) ?_)
 |(with_reducible first|refine bq fun hc=>?_|refine br fun hc=>?_|refine bt (fun hc=>?_) fun hc=>?_)<;>(try simp only[hc,bs,↓reduceIte]at h)<;>try simp only[hc]
 |(with_reducible refine aB hQ ?_;(try cases h);simp only[cj,cr,dK,dL,go_sem,hY,hZ,gA,gB,k1];try exact dM))
  refine eQ 1 0 ?_ ?_ (IH (rest,k+1) ⟨g2,h⟩ (Nat.lt_succ_self _))
  ·(simp only[go_sem,hY,hZ,gA,gB,k1,aM cd];try exact bQ)
  ·(simp only[go_sem,hY,hZ,gA,gB,k1,aM cd];try exact bQ)
theorem Cj {l:List Pc} (hl:l.length<4611686018427387904) {f:Nat} {row:List D} {b:Pc→Bool} (wj:D.bN 0 0 row=true) (he:enters Tryz.prog f=true)
 (hb : ∀ x∈l,aA Tryz.prog f ([.agg (cH x)]++ [.ptr 0 0]) ⟨[row],[]⟩ (.bool (b x)) ⟨[row],[]⟩) :
 aA Tryz.prog iE [.slice .shared 5 (l.map cH), .iK f [.ptr 0 0]] ⟨[row],[]⟩ (.bool (l.any b)) ⟨[row],[]⟩:=by
 have k1 : ∀ n m,D.je n m row=row:=fun n m=>jx n m _ wj
 have hi:=xP hl wj he hb
 have e:decide (n5 b 0 l≥0)=l.any b:=by
  have:=Ig b l 0 (Int.le_refl 0)
  cases hh:l.any b<;>simp_all
 refine aA.go rY rfl fun B Q hB hQ=>?_
 have⟨hY,hZ,gA,gB⟩:=bu
 repeat' (first
 |simp only[go_sem,hY,hZ,gA,gB,k1,e]
 |(with_reducible refine CU (hi) ?_)
 |(with_reducible first|refine bq fun hc=>?_|refine br fun hc=>?_|refine bt (fun hc=>?_) fun hc=>?_)<;>(try simp only[hc,bs,↓reduceIte]at h)<;>try simp only[hc]
 |(with_reducible refine aB hQ ?_;simp only[cj,cr,dK,dL,go_sem,hY,hZ,gA,gB,k1,e];try exact dM))
mutual
def Sm.pre:Sm→List Sm
 |⟨id,kind,labels,name,pc,x,has,args,aS,aL⟩=>⟨id,kind,labels,name,pc,x,has,args,aS,aL⟩::(Sm.eW aS++Sm.eW aL)
def Sm.eW:List Sm→List Sm
 | []=> []
 |s::l=>s.pre++Sm.eW l
end
def Pg.pre (p:Pg):List Sm:=(p.procs.map fun f=>Sm.eW f.body).flatten
theorem Sm.Mq (s:Sm):s.pre=s::(Sm.eW s.aS++Sm.eW s.aL):=by cases s;simp only[Sm.pre]
mutual
theorem acb (proc up next loop:Int) (out:List Im) : ∀ s:Sm,∃ e:List Im,Im.one proc up next loop out s=out++e∧e.map Im.s=s.pre
 |⟨id,kind,labels,name,pc,x,has,args,aS,aL⟩=>by
  simp only[Im.one,Sm.pre]
  obtain⟨e1,h1,k1⟩:=Bt proc ((out.length:Int)+1) (if kind==6 then(out.length:Int)+1 else next) (if kind==6 then(out.length:Int)+1 else loop) (out++ [⟨⟨id,kind,labels,name,pc,x,has,args,aS,aL⟩,proc,up,next,loop⟩]) aS
  obtain⟨e2,h2,k2⟩:=Bt proc ((out.length:Int)+1) (if kind==6 then(out.length:Int)+1 else next) (if kind==6 then(out.length:Int)+1 else loop) (Im.rows proc ((out.length:Int)+1) (if kind==6 then(out.length:Int)+1 else next) (if kind==6 then(out.length:Int)+1 else loop) (out++ [⟨⟨id,kind,labels,name,pc,x,has,args,aS,aL⟩,proc,up,next,loop⟩]) aS) aL
  refine⟨⟨⟨id,kind,labels,name,pc,x,has,args,aS,aL⟩,proc,up,next,loop⟩::(e1++e2), ?_, ?_⟩
  ·rw[h2,h1];simp
  ·simp[k1,k2]
theorem Bt (proc up next loop:Int) (out:List Im) : ∀ l:List Sm,∃ e:List Im,Im.rows proc up next loop out l=out++e∧e.map Im.s=Sm.eW l
 | []=>⟨[],by simp[Im.rows],rfl⟩
 |s::l=>by
  simp only[Im.rows,Sm.eW]
  obtain⟨e1,h1,k1⟩:=acb proc up (if l.length=0 then next else(out.length:Int)+1+(s.jy:Int)) loop out s
  obtain⟨e2,h2,k2⟩:=Bt proc up next loop (Im.one proc up (if l.length=0 then next else(out.length:Int)+1+(s.jy:Int)) loop out s) l
  refine⟨e1++e2, ?_,by simp[k1,k2]⟩
  rw[h2,h1];simp
end
theorem UP : ∀ (l:List Pc) (n:Nat) (h:Sh),h.lo.length=n→h.hi.length=n→
 ∃ e lo hi,Sh.go n h l = ⟨h.L++e,h.lo++lo,h.hi++hi⟩∧e.map Im.s=(l.map fun f=>Sm.eW f.body).flatten∧lo.length=l.length∧hi.length=l.length∧
  ∀ (i:Nat) (f:Pc),l[i]? = some f→∃ a b e' OP:List Im,lo[i]? = some (((h.L++a).length:Int)+1)∧hi[i]? = some (((h.L++a++b).length:Int)+1)∧b.map Im.s=Sm.eW f.body∧e=a++b++e'
 | [],n,h,hl,hh=>⟨[],[],[],by simp[Sh.go],rfl,rfl,rfl,fun i f h=>by simp at h⟩
 | f::l,n,h,hl,hh=>by
  simp only[Sh.go]
  obtain⟨e1,h1,k1⟩:=Bt (n:Int) 0 (-1) 0 h.L f.body
  obtain⟨e2,lo,hi,h2,k2,h3,h4,h5⟩:=UP l (n+1) ⟨Im.rows (n:Int) 0 (-1) 0 h.L f.body,h.lo++ [(h.L.length:Int)+1],h.hi++ [((Im.rows (n:Int) 0 (-1) 0 h.L f.body).length:Int)+1]⟩ (by simp[hl]) (by simp[hh])
  refine⟨e1++e2,((h.L.length:Int)+1)::lo,(((Im.rows (n:Int) 0 (-1) 0 h.L f.body).length:Int)+1)::hi, ?_,by simp[k1,k2],by simp[h3],by simp[h4],fun i g jd=>?_⟩
  ·rw[h2,h1];simp
  ·cases i with
   |zero=>
    simp only[List.getElem?_cons_zero,Option.some.injEq]at jd
    subst jd
    exact⟨[],e1,e2,[],by simp,by rw[h1];simp,k1,by simp⟩
   |succ i=>
    simp only[List.getElem?_cons_succ]at jd
    obtain⟨a,b,e',OP,g1,g2,g3,g4⟩:=h5 i g jd
    refine⟨e1++a,b,e',OP, ?_, ?_,g3,by rw[g4];simp⟩
    ·rw[List.getElem?_cons_succ,g1,h1];simp
    ·rw[List.getElem?_cons_succ,g2,h1];simp
theorem sk (p:Pg):p.fR.L.map Im.s=p.pre∧∀ (i:Nat) (f:Pc),p.procs[i]? = some f→∃ a b e:List Im,p.fR.lo[i]? = some ((a.length:Int)+1)∧p.fR.hi[i]? = some (((a++b).length:Int)+1)∧b.map Im.s=Sm.eW f.body∧p.fR.L=a++b++e:=by
 obtain⟨e,lo,hi,h1,h2,h3,h4,h5⟩:=UP p.procs 0 ⟨[],[],[]⟩ rfl rfl
 unfold Pg.fR
 rw[h1]
 refine⟨by simpa[Pg.pre]using h2,fun i f hf=>?_⟩
 obtain⟨a,b,e',_,g1,g2,g3,g4⟩:=h5 i f hf
 exact⟨a,b,e',by simpa using g1,by simpa using g2,g3,by simpa using g4⟩
set_option maxRecDepth 8000
open Go.Proofs
def Pg.at (p:Pg) (name:ay):Int:=n5 (fun f:Pc=>f.name==name) 0 p.procs
theorem acd (name:ay) (f:Pc):aA Tryz.prog na ([.agg (cH f)]++ [.ptr 0 0]) ⟨[[.str name]],[]⟩ (.bool (f.name==name)) ⟨[[.str name]],[]⟩:=by
 show aA Tryz.prog na [.agg (cH f), .ptr 0 0] _ _ _
 refine aA.go Af rfl fun B Q hB hQ=>?_
 have⟨hY,hZ,gA,gB⟩:=bu
 repeat' (first
 |simp only[go_sem,hY,hZ,gA,gB]
 |(with_reducible refine aB hQ ?_;exact aU))
theorem UQ {p:Pg} (hs:p.procs.length<4611686018427387904) (name:ay) (s:St):aA Tryz.prog n8 [.eJ (jo p) 0, .str name] s (.int .i64 (p.at name)) s:=by
 refine aA.pure ?_ (by simp[D.bN,D.ok,Bs]) rfl s
 have hi:=fun {s:St} {o:Nat} (ho:s.az[o]? = some [.str name])=>Dd (xP (l:=p.procs) (f:=na) (row:= [.str name]) (b:=fun f:Pc=>f.name==name) hs rfl (by with_unfolding_all rfl) (fun x _=>acd name x)) rfl (Kz _) rfl ho
 have jd:=fun {s:St} {o:Nat} (ho:s.az[o]? = some [.str name])=>(show aA Tryz.prog gT [.slice .shared 5 (p.procs.map cH), .iK 167 [.ptr o 0]] s (.int .i64 (p.at name)) s from hi ho)
 unfold S0
 rw[uf]
 refine aA.go Ch rfl fun B Q hB hQ=>?_
 have⟨hY,hZ,gA,gB⟩:=bu
 repeat' (first
 |simp only[go_sem,hY,hZ,gA,gB]
 |(with_reducible refine CU (jd (by with_unfolding_all rfl)) ?_)
 |(with_reducible refine aB hQ ?_;exact aU))
theorem UR : ∀ (l:List Pc) (n:Nat) (h:Sh),(Sh.go n h l).L.length≤h.L.length+Pc.aT l
 | [],n,h=>by simp[Sh.go]
 |f::l,n,h=>by
  simp only[Sh.go]
  refine Nat.le_trans (UR l _ _) ?_
  have:=iw (n:Int) 0 (-1) 0 h.L f.body
  have:=mn f.body
  simp only[Pc.aT,Pc.size];omega
theorem sn (p:Pg):p.fR.L.length≤Pc.aT p.procs:=by have:=UR p.procs 0 ⟨[],[],[]⟩;simpa[Pg.fR]using this
theorem afA {p:Pg} {i:Nat} (hs:Pc.aT p.procs<1000000000) {a b e:List Im} (h1:p.fR.lo[i]? = some ((a.length:Int)+1)) (h2:p.fR.hi[i]? = some (((a++b).length:Int)+1)) (h4:p.fR.L=a++b++e) (s:St) :
 aA Tryz.prog iD [.eJ (jo p) 0, .int .i64 (i:Int)] s (.slice .shared 17 (b.map fD)) s:=by
 refine aA.pure ?_ (by simp[D.bN,D.ok,Bs]) (by simp[D.ok,Tag.ok,KS]) s
 have hL:p.fR.L.length<1000000000:=Nat.lt_of_le_of_lt (sn p) hs
 have l1:(i:Int)<(p.fR.lo.length:Int):=by have:=(List.getElem?_eq_some_iff.1 h1).1;omega
 have l2:(i:Int)<(p.fR.hi.length:Int):=by have:=(List.getElem?_eq_some_iff.1 h2).1;omega
 have ED:a.length+b.length≤p.fR.L.length:=by rw[h4];simp
 have w1:IntKind.wrap .i64 ((a.length:Int)+1 - 1)=(a.length:Int):=by rw[show(a.length:Int)+1 - 1=(a.length:Int) by omega];exact bC (by omega) (by omega)
 have w2:IntKind.wrap .i64 (((a.length+b.length:Nat):Int)+1 - 1)=((a.length+b.length:Nat):Int):=by rw[show((a.length+b.length:Nat):Int)+1 - 1=((a.length+b.length:Nat):Int) by omega];exact bC (by omega) (by omega)
 have c1:((a.length:Int)≤((a.length+b.length:Nat):Int))=True:=by simp only[eq_iff_iff,iff_true];omega
 have c2:(((a.length+b.length:Nat):Int)≤(p.fR.L.length:Int))=True:=by simp only[eq_iff_iff,iff_true];omega
 have hb:List.drop a.length (List.take (a.length+b.length) (List.map fD p.fR.L))=List.map fD b:=by rw[h4];simp[List.map_append,List.take_append,List.drop_append]
 unfold S0
 rw[uf]
 refine aA.go Ee rfl fun B Q hB hQ=>?_
 have⟨hY,hZ,gA,gB⟩:=bu
 repeat' (first
 |simp only[go_sem,hY,hZ,gA,gB,h1,h2,List.length_append,w1,w2,c1,c2,or_true,true_and,and_self,ite_self,Int.toNat_natCast,hb]
 |(with_reducible first|refine bq fun hc=>?_|refine br fun hc=>?_|refine bt (fun hc=>?_) fun hc=>?_)<;>(try simp only[hc,bs,↓reduceIte]at h)<;>try simp only[hc]
 |(with_reducible refine aB hQ ?_;(try cases h);simp only[cj,cr,dK,dL,go_sem,hY,hZ,gA,gB,h1,h2,List.length_append,w1,w2,c1,c2,or_true,true_and,and_self,ite_self,Int.toNat_natCast,hb];try exact dM)
 |(cases h;done))
theorem Yd {p:Pg} {i:Nat} {f:Pc} (hf:p.procs[i]? = some f) (hs:Pc.aT p.procs<1000000000) : ∃ it:List Im,it.map Im.s=Sm.eW f.body∧∀ s,aA Tryz.prog iD [.eJ (jo p) 0, .int .i64 (i:Int)] s (.slice .shared 17 (it.map fD)) s:=by
 obtain⟨a,b,e,h1,h2,h3,h4⟩:=(sk p).2 i f hf
 exact⟨b,h3,afA hs h1 h2 h4⟩
set_option maxRecDepth 8000
open Go.Proofs
theorem Ja {r:ay} : ta r=true↔jj r=r.length:=by
 induction r with
 |nil=>simp[ta,jj]
 |cons c r ih=>
  simp only[ta,jj]
  cases h1:kN c<;>cases h2:kE c<;>simp[ih]
theorem De (t:ay) (hl:t.length<4611686018427387904) (s:St):aA Tryz.prog o7 [.str t] s (.bool (isName t)) s:=by
 refine aA.pure ?_ rfl rfl s
 have hr:=fun s=>aaF (pos:=0) hl s
 simp only[List.drop_zero,Nat.zero_add]at hr
 unfold S0
 cases t with
 |nil=>
  have z:decide (((0:Nat):Int)<1)=true:=rfl
  have z':decide ((0:Int)<1)=true:=rfl
  have e:isName [] = false:=rfl
  rw[e]
  refine aA.go oD rfl fun B Q hB hQ=>?_
  have⟨hY,hZ,gA,gB⟩:=bu
  repeat' (first
 |simp only[go_sem,hY,hZ,gA,gB,z,z']
 |(with_reducible refine aB hQ ?_;exact aU))
 | cons c r=>
  have l1:decide (((r.length+1:Nat):Int)<1)=false:=by simp;omega
  generalize h:isName (c::r)=p
  simp only[isName]at h
  cases hL:kN c
  ·simp only [hL,Bool.not_false,Bool.or_true, ↓reduceIte]at h
   subst h
   by_cases c8:decide (((r.length+1:Nat):Int) > 8)=true
   ·refine aA.go oD rfl fun B Q hB hQ=> ?_
    have⟨hY,hZ,gA,gB⟩:=bu
    repeat' (first
 |simp only[go_sem,hY,hZ,gA,gB,l1,c8]
 | (with_reducible refine aB hQ ?_;exact aU))
   ·have c8:decide (((r.length+1:Nat):Int) > 8)=false:=by simpa using c8
    refine aA.go oD rfl fun B Q hB hQ=>?_
    have⟨hY,hZ,gA,gB⟩:=bu
    repeat' (first
 |simp only[go_sem,hY,hZ,gA,gB,l1,c8,hL]
 |(with_reducible refine CU (jk _ _) ?_)
 | (with_reducible refine aB hQ ?_;exact aU))
  ·simp only [hL,Bool.not_true,Bool.or_false]at h
   by_cases c8:decide (((r.length+1:Nat):Int) > 8)=true
   ·simp only [c8, ↓reduceIte]at h
    subst h
    refine aA.go oD rfl fun B Q hB hQ=>?_
    have⟨hY,hZ,gA,gB⟩:=bu
    repeat' (first
 |simp only[go_sem,hY,hZ,gA,gB,l1,c8]
 | (with_reducible refine aB hQ ?_;exact aU))
   ·have c8:decide (((r.length+1:Nat):Int) > 8)=false:=by simpa using c8
    simp only[c8,Bool.false_eq_true,↓reduceIte]at h
    have dt:jj (c::r)=jj r+1:=by simp[jj,hL]
    cases hn:ta r
    ·simp only [hn,Bool.false_eq_true, ↓reduceIte]at h
     have:jj r≠r.length:=fun e=>by rw[Ja.2 e]at hn;cases hn
     have e:(((jj (c::r):Nat):Int)==((r.length+1:Nat):Int))=false:=by rw[dt];simp;omega
     subst h
     refine aA.go oD rfl fun B Q hB hQ=>?_
     have⟨hY,hZ,gA,gB⟩:=bu
     repeat' (first
 |simp only[go_sem,hY,hZ,gA,gB,l1,c8,hL,e]
 |(with_reducible refine CU (jk _ _) ?_)
 |(with_reducible refine CU (hr _) ?_)
 | (with_reducible refine aB hQ ?_;exact aU))
    ·simp only [hn, ↓reduceIte]at h
     have:=Ja.1 hn
     have e:(((jj (c::r):Nat):Int)==((r.length+1:Nat):Int))=true:=by rw[dt];simp;omega
     subst h
     refine aA.go oD rfl fun B Q hB hQ=>?_
     have⟨hY,hZ,gA,gB⟩:=bu
     repeat' (first
 |simp only[go_sem,hY,hZ,gA,gB,l1,c8,hL,e]
 |(with_reducible refine CU (jk _ _) ?_)
 |(with_reducible refine CU (hr _) ?_)
 |(with_reducible refine CU (xO _ _) ?_)
 |(with_reducible refine aB hQ ?_;exact aU))
theorem Pe (op:Int) (s:St):aA Tryz.prog zB [.int .i64 op] s (.int .i64 (eI op)) s:=by
 refine aA.pure ?_ rfl rfl s
 unfold S0
 generalize h:eI op=p
 unfold eI at h
 refine aA.go Kh rfl fun B Q hB hQ=>?_
 have⟨hY,hZ,gA,gB⟩:=bu
 repeat' (first
 |simp only[go_sem,hY,hZ,gA,gB]
 |(with_reducible first|refine bq fun hc=>?_|refine br fun hc=>?_|refine bt (fun hc=>?_) fun hc=>?_)<;>(try simp only[hc,bs,↓reduceIte]at h)<;>try simp only[hc]
 |(with_reducible refine aB hQ ?_;exact eo))
theorem Bu {l:List ay} (hl:l.length<4611686018427387904) (hs : ∀ t∈l,t.length<4611686018427387904) (s:St):aA Tryz.prog ox [.slice .shared 1 (l.map encStr)] s (.bool (dn l)) s:=by
 refine aA.pure ?_ (by simp[D.bN,D.ok,fw,Tag.ok]) rfl s
 unfold S0
 generalize h:dn l=p
 refine aA.go HY rfl fun B Q hB hQ=>?_
 have⟨hY,hZ,gA,gB⟩:=bu
 repeat' (first
 |simp only[go_sem,hY,hZ,gA,gB]
 |(with_reducible first|refine bq fun hc=>?_|refine br fun hc=>?_|refine bt (fun hc=>?_) fun hc=>?_)<;>(try simp only[hc,bs,↓reduceIte]at h)<;>try simp only[hc]
 |(with_reducible refine aB hQ ?_;exact eo))
 refine cq 0 0 (bn.ind (ι:=List ay×Nat) (fun i=>l.drop i.2=i.1∧dn i.1=p) (fun i=>i.1.length)
  (fun i=> [(5, .slice .shared 1 (l.map encStr)),(6, .int .i64 (l.length:Int)),(7, .int .i64 (i.2:Int))]) (fun i=>⟨[],[]⟩) ?_ (l,0) ⟨rfl,h⟩)
 rintro⟨rest,k⟩ ⟨h1,h⟩ IH
 dsimp only at h1 h
 cases rest with
 |nil=>
  have hY:=drop_nil h1
  simp only[dn]at h
  repeat' (first
 |simp only[go_sem,hY,hZ,gA,gB]
 |(with_reducible first|refine bq fun hc=>?_|refine br fun hc=>?_|refine bt (fun hc=>?_) fun hc=>?_)<;>(try simp only[hc,bs,↓reduceIte]at h)<;>try simp only[hc]
 |(with_reducible refine aB hQ ?_;exact eo))
 |cons t rest=>
  obtain⟨hZ,g2,hY,g4⟩:=drop_cons h1
  have gA:k<4611686018427387904:=by omega
  have hn:=De t (hs t (List.mem_of_getElem? hZ))
  simp only[dn]at h
  repeat' (first
 |simp only[go_sem,hY,hZ,gA,gB]
 |(with_reducible refine CU (hn _) ?_)
 |(with_reducible first|refine bq fun hc=>?_|refine br fun hc=>?_|refine bt (fun hc=>?_) fun hc=>?_)<;>(try simp only[hc,bs,↓reduceIte]at h)<;>try simp only[hc]
 |(with_reducible refine aB hQ ?_;exact eo))
  refine cq 0 0 (IH (rest,k+1) ⟨g2,h⟩ (Nat.lt_succ_self _))
mutual
def Ex.dp (left:Int):Ex→Bool
 |⟨op,n,name,kids⟩=>
  if decide (left<1) ||(kids.length:Int) != eI op then false
  else if op==1 then decide (n≥0) && name == []
  else if op==2 then n==0 && isName name
  else if n != 0 || !(name == [])then false
  else Ex.GD (left - 1) kids
def Ex.GD (left:Int):List Ex→Bool
 | []=>true
 |x::l=>if !(Ex.dp left x)then false else Ex.GD left l
end
theorem ace : ∀ (m:Nat) (x:Ex),x.size≤m→x.size<4611686018427387904→x.texts→∀ left:Int,0≤left→left≤100→∀ s:St,aA Tryz.prog rF [.agg (bx x), .int .i64 left] s (.bool (x.dp left)) s:=by
 intro m
 induction m with
 |zero=>rintro⟨op,v,name,kids⟩ h;simp only[Ex.size]at h;omega
 | succ m ih=>
  rintro⟨op,v,name,kids⟩ h hx ht left h0 aBT s
  refine aA.pure ?_ (by simp[D.bN,D.ok,gE]) rfl s
  have hlen:kids.length<4611686018427387904:=by simp only[Ex.size]at hx;have:=Ex.cu kids;omega
  have hn:=De name ht.1
  generalize hp:Ex.dp left ⟨op,v,name,kids⟩=p
  simp only[Ex.dp]at hp
  unfold S0
  by_cases US:left<1
  ·have d1:decide (left<1)=true:=by simpa using US
   simp only[d1,Bool.true_or,↓reduceIte]at hp
   subst hp
   refine aA.go B8 rfl fun B Q hB hQ=>?_
   have⟨hY,hZ,gA,gB⟩:=bu
   repeat' (first
 |simp only[go_sem,hY,hZ,gA,gB,d1]
 |(with_reducible refine CU (Pe _ _) ?_)
 |(with_reducible refine CU (hn _) ?_)
 | (with_reducible refine aB hQ ?_;exact aU))
  ·have d1:decide (left<1)=false:=by simpa using US
   have w1:IntKind.wrap .i64 (left - 1)=left - 1:=bC (by omega) (by omega)
   have hk : ∀ y∈kids,∀ s,aA Tryz.prog rF [.agg (bx y), .int .i64 (left - 1)] s (.bool (y.dp (left - 1))) s:=fun y hy s=>
    ih y (by simp only[Ex.size]at h;have:=Ex.bJ hy;omega) (by simp only[Ex.size]at hx;have:=Ex.bJ hy;omega) (Ex.I7 ht hy) (left - 1) (by omega) (by omega) s
   simp only[d1,Bool.false_or]at hp
   have h:=hp
   clear hp
   refine aA.go B8 rfl fun B Q hB hQ=>?_
   have⟨hY,hZ,gA,gB⟩:=bu
   repeat' (first
 |simp only[go_sem,hY,hZ,gA,gB,d1]
 |(with_reducible refine CU (Pe _ _) ?_)
 |(with_reducible refine CU (hn _) ?_)
 |(with_reducible first|refine bq fun hc=>?_|refine br fun hc=>?_|refine bt (fun hc=>?_) fun hc=>?_)<;>(try simp only[hc,bs,↓reduceIte]at h)<;>try simp only[hc]
 | (with_reducible refine aB hQ ?_;(try cases h);simp only [cj,cr,dK,dL,go_sem,hY,hZ,gA,gB,d1];try exact dM))
   all_goals
    refine cq 1 0 (bn.ind (ι:=List Ex×Nat) (fun i=>kids.drop i.2=i.1∧Ex.GD (left - 1) i.1=p) (fun i=>i.1.length)
     (fun i=> [(1, .int .i64 left),(49, .slice .shared 4 (kids.map bx)),(50, .int .i64 (kids.length:Int)),(51, .int .i64 (i.2:Int))]) (fun i=>⟨[bx ⟨op,v,name,kids⟩],[]⟩) ?_ (kids,0) ⟨rfl,h⟩)
    rintro⟨rest,k⟩ ⟨h1,h⟩ IH
    dsimp only at h1 h
    cases rest with
    |nil=>
     have hY:=drop_nil h1
     simp only[Ex.GD]at h
     repeat' (first
 |simp only[go_sem,hY,hZ,gA,gB]
 |(with_reducible first|refine bq fun hc=>?_|refine br fun hc=>?_|refine bt (fun hc=>?_) fun hc=>?_)<;>(try simp only[hc,bs,↓reduceIte]at h)<;>try simp only[hc]
 |(with_reducible refine aB hQ ?_;exact eo)
 | (cases h;done))
    |cons y rest=>
     obtain⟨hZ,g2,hY,g4⟩:=drop_cons h1
     have hy:=hk y (List.mem_of_getElem? hZ)
     have gA:k<4611686018427387904:=by omega
     simp only[Ex.GD]at h
     repeat' (first
 |simp only[go_sem,hY,hZ,gA,gB,w1]
 |(with_reducible refine CU (hy _) ?_)
 |(with_reducible first|refine bq fun hc=>?_|refine br fun hc=>?_|refine bt (fun hc=>?_) fun hc=>?_)<;>(try simp only[hc,bs,↓reduceIte]at h)<;>try simp only[hc]
 |(with_reducible refine aB hQ ?_;(try cases h);simp only[cj,cr,dK,dL,go_sem,hY,hZ,gA,gB,w1];try exact dM))
     refine cq 1 0 (IH (rest,k+1) ⟨g2,h⟩ (Nat.lt_succ_self _))
set_option maxRecDepth 8000
open Go.Proofs
theorem GF {x:Ex} (hx:x.size<4611686018427387904) (ht:x.texts) (s:St):aA Tryz.prog qM [.agg (bx x)] s (.bool (x.dp 20)) s:=by
 refine aA.pure ?_ (by simp[D.bN,D.ok,gE]) rfl s
 have hd:=fun s=>ace _ x (Nat.le_refl _) hx ht 20 (by omega) (by omega) s
 unfold S0
 refine aA.go Fu rfl fun B Q hB hQ=>?_
 have⟨hY,hZ,gA,gB⟩:=bu
 repeat' (first
 |simp only[go_sem,hY,hZ,gA,gB]
 |(with_reducible refine CU (hd _) ?_)
 |(with_reducible refine aB hQ ?_;exact aU))
theorem acf (x:Ex) (s:St):aA Tryz.prog zA [.agg (bx x)] s (.bool x.none) s:=by
 refine aA.pure ?_ (by simp[D.bN,D.ok,gE]) rfl s
 unfold S0
 generalize h:Ex.none x=p
 unfold Ex.none at h
 refine aA.go Ke rfl fun B Q hB hQ=>?_
 have⟨hY,hZ,gA,gB⟩:=bu
 repeat' (first
 |simp only[go_sem,hY,hZ,gA,gB]
 |(with_reducible first|refine bq fun hc=>?_|refine br fun hc=>?_|refine bt (fun hc=>?_) fun hc=>?_)<;>(try simp only[hc,bs,↓reduceIte]at h)<;>try simp only[hc]
 |(with_reducible refine aB hQ ?_;exact eo))
def tf (t:ay) (is:Bool):Bool:=(is && isName t) ||(!is && t == [])
theorem Fv (t:ay) (is:Bool) (hl:t.length<4611686018427387904) (s:St):aA Tryz.prog qu [.str t, .bool is] s (.bool (tf t is)) s:=by
 refine aA.pure ?_ rfl rfl s
 have hn:=De t hl
 unfold S0
 generalize h:tf t is=p
 unfold tf at h
 refine aA.go Ic rfl fun B Q hB hQ=>?_
 have⟨hY,hZ,gA,gB⟩:=bu
 repeat' (first
 |simp only[go_sem,hY,hZ,gA,gB]
 |(with_reducible refine CU (hn _) ?_)
 |(with_reducible first|refine bq fun hc=>?_|refine br fun hc=>?_|refine bt (fun hc=>?_) fun hc=>?_)<;>(try simp only[hc,bs,↓reduceIte]at h)<;>try simp only[hc]
 |(with_reducible refine aB hQ ?_;exact eo))
def xQ (x:Ex) (is:Bool):Bool:=(is && x.dp 20) ||(!is && x.none)
theorem Pf {x:Ex} (is:Bool) (hx:x.size<4611686018427387904) (ht:x.texts) (s:St):aA Tryz.prog sZ [.agg (bx x), .bool is] s (.bool (xQ x is)) s:=by
 refine aA.pure ?_ (by simp[D.bN,D.ok,gE]) rfl s
 have hm:=GF hx ht
 unfold S0
 generalize h:xQ x is=p
 unfold xQ at h
 refine aA.go Ie rfl fun B Q hB hQ=>?_
 have⟨hY,hZ,gA,gB⟩:=bu
 repeat' (first
 |simp only[go_sem,hY,hZ,gA,gB]
 |(with_reducible refine CU (hm _) ?_)
 |(with_reducible refine CU (acf _ _) ?_)
 |(with_reducible first|refine bq fun hc=>?_|refine br fun hc=>?_|refine bt (fun hc=>?_) fun hc=>?_)<;>(try simp only[hc,bs,↓reduceIte]at h)<;>try simp only[hc]
 |(with_reducible refine aB hQ ?_;exact eo))
def qR:List Ar→Bool
 | []=>true
 |a::l=>if !(tf a.name a.ref) || !(xQ a.x !a.ref)then false else qR l
theorem Ye {l:List Ar} (hl:l.length<4611686018427387904) (hs : ∀ a∈l,a.x.size<4611686018427387904∧a.x.texts∧a.name.length<4611686018427387904) (s:St) :
 aA Tryz.prog vQ [.slice .shared 6 (l.map fb)] s (.bool (qR l)) s:=by
 refine aA.pure ?_ (by simp[D.bN,D.ok,Ky,Tag.ok]) rfl s
 unfold S0
 generalize h:qR l=p
 refine aA.go Gt rfl fun B Q hB hQ=>?_
 have⟨hY,hZ,gA,gB⟩:=bu
 repeat' (first
 |simp only[go_sem,hY,hZ,gA,gB]
 |(with_reducible first|refine bq fun hc=>?_|refine br fun hc=>?_|refine bt (fun hc=>?_) fun hc=>?_)<;>(try simp only[hc,bs,↓reduceIte]at h)<;>try simp only[hc]
 |(with_reducible refine aB hQ ?_;exact eo))
 refine cq 0 0 (bn.ind (ι:=List Ar×Nat) (fun i=>l.drop i.2=i.1∧qR i.1=p) (fun i=>i.1.length)
  (fun i=> [(5, .slice .shared 6 (l.map fb)),(6, .int .i64 (l.length:Int)),(7, .int .i64 (i.2:Int))]) (fun i=>⟨[],[]⟩) ?_ (l,0) ⟨rfl,h⟩)
 rintro⟨rest,k⟩ ⟨h1,h⟩ IH
 dsimp only at h1 h
 cases rest with
 |nil=>
  have hY:=drop_nil h1
  simp only[qR]at h
  repeat' (first
 |simp only[go_sem,hY,hZ,gA,gB]
 |(with_reducible first|refine bq fun hc=>?_|refine br fun hc=>?_|refine bt (fun hc=>?_) fun hc=>?_)<;>(try simp only[hc,bs,↓reduceIte]at h)<;>try simp only[hc]
 |(with_reducible refine aB hQ ?_;exact eo))
 |cons a rest=>
  obtain⟨hZ,g2,hY,g4⟩:=drop_cons h1
  have gA:k<4611686018427387904:=by omega
  obtain⟨a1,a2,a3⟩:=hs a (List.mem_of_getElem? hZ)
  have hn:=fun b s=>Fv a.name b a3 s
  have hw:=fun b s=>Pf b a1 a2 s
  simp only[qR]at h
  repeat' (first
 |simp only[go_sem,hY,hZ,gA,gB]
 |(with_reducible refine CU (hn _ _) ?_)
 |(with_reducible refine CU (hw _ _) ?_)
 |(with_reducible first|refine bq fun hc=>?_|refine br fun hc=>?_|refine bt (fun hc=>?_) fun hc=>?_)<;>(try simp only[hc,bs,↓reduceIte]at h)<;>try simp only[hc]
 |(with_reducible refine aB hQ ?_;exact eo))
  refine cq 0 0 (IH (rest,k+1) ⟨g2,h⟩ (Nat.lt_succ_self _))
def Sm.flags (s:Sm):Option (Bool×Bool×Bool×Bool×Bool×Bool):=
 if s.kind==1 then some (true,false,true,s.has,false,false)
 else if s.kind==2 ||s.kind==10 then some (true,false,false,s.has,false,false)
 else if s.kind==3 then some (false,false,true,s.has,false,false)
 else if s.kind==4 then some (!(s.name == []),true,false,s.has,false,false)
 else if s.kind==5 then some (false,false,true,s.has,true,true)
 else if s.kind==6 then some (false,false,true,s.has,true,false)
 else if s.kind==9 then some (false,false,s.has,false,false,false)
 else if s.kind==7 ||s.kind==8 then some (false,false,false,s.has,false,false)
 else none
def Sm.KT (s:Sm) (nm pr x:Bool):Bool:=if !(tf s.name nm) || !(tf s.proc pr) || !(xQ s.x x)then false else qR s.args
def Sm.KU (s:Sm) (f:Bool×Bool×Bool×Bool×Bool×Bool):Bool:=
 if f.2.2.2.1 ||(!f.2.2.2.2.1 && decide ((s.aS.length:Int) > 0)) ||(!f.2.2.2.2.2 && decide ((s.aL.length:Int) > 0)) ||(!(s.kind==4) && decide ((s.args.length:Int) > 0))then false
 else s.KT f.1 f.2.1 f.2.2.1
def Sm.fields (s:Sm):Bool:=match s.flags with
 |none=>false
 |some f=>s.KU f
section
variable {v:Sm} {B:fZ} {Q:Exit→Tm→St→Prop} {p:Bool}
theorem Yf {nm pr x:Bool} (hf:v.kJ) (hB:B.s = ⟨[],[]⟩) (hQ:jO 0 0 [(2,none)] (.bool p) ⟨[],[]⟩=Q) (h:v.KT nm pr x=p) :
 Sem Tryz.prog B 93 ae1 Q [(1, .ptr 0 0),(3, .bool nm),(4, .bool pr),(5, .bool x)] ⟨[bh v],[]⟩:=by
 have h1:=fun b s=>Fv v.name b hf.name s
 have h2:=fun b s=>Fv v.proc b hf.proc s
 have h3:=fun b s=>Pf b hf.x hf.xt s
 have h4:=fun s=>Ye hf.aft hf.arg s
 unfold Sm.KT at h
 have⟨hY,hZ,gA,gB⟩:=bu
 refine jn ?_
 repeat' (first
 |simp only[go_sem,hY,hZ,gA,gB]
 |(with_reducible refine CU (h1 _ _) ?_)
 |(with_reducible refine CU (h2 _ _) ?_)
 |(with_reducible refine CU (h3 _ _) ?_)
 |(with_reducible refine CU (h4 _) ?_)
 |(with_reducible first|refine bq fun hc=>?_|refine br fun hc=>?_|refine bt (fun hc=>?_) fun hc=>?_)<;>(try simp only[hc,bs,↓reduceIte]at h)<;>try simp only[hc]
 |(with_reducible refine aB hQ ?_;exact eo))
theorem Yg {nm pr x has th ot ar:Bool} (hf:v.kJ) (hB:B.s = ⟨[],[]⟩) (hQ:jO 0 0 [(2,none)] (.bool p) ⟨[],[]⟩=Q) (e:(v.kind==4)=ar) (h:v.KU (nm,pr,x,has,th,ot)=p) :
 Sem Tryz.prog B 93 ae2 Q [(1, .ptr 0 0),(3, .bool nm),(4, .bool pr),(5, .bool x),(6, .bool has),(7, .bool th),(8, .bool ot),(9, .bool ar)] ⟨[bh v],[]⟩:=by
 simp only[Sm.KU,e]at h
 have⟨hY,hZ,gA,gB⟩:=bu
 refine Sem.ma ?_
 repeat' (first
 |simp only[go_sem,hY,hZ,gA,gB]
 |(with_reducible first|refine bq fun hc=>?_|refine br fun hc=>?_|refine bt (fun hc=>?_) fun hc=>?_)<;>(try simp only[hc,bs,↓reduceIte]at h)<;>try simp only[hc]
 |(with_reducible refine aB hQ ?_;(try cases h);simp only[cj,cr,dK,dL,go_sem,hY,hZ,gA,gB];repeat' (first|exact Ok.out|with_reducible refine kM ?_ ?_|(simp;done))))
 all_goals
  refine Sem.re _ _ 1 0 (by rw[hB];exact n7 rfl) (by rw[hB];exact n7 rfl) ?_ ?_ (Yf hf hB hQ h)
  ·(simp only[go_sem,hY,hZ,gA,gB];repeat' (first|exact Ok.out|with_reducible refine kM ?_ ?_))
  ·(simp only[go_sem,hY,hZ,gA,gB];repeat' (first|exact Ok.out|with_reducible refine kM ?_ ?_))
theorem Yh {ar:Bool} (hf:v.kJ) (hB:B.s = ⟨[],[]⟩) (hQ:jO 0 0 [(2,none)] (.bool p) ⟨[],[]⟩=Q) (e:(v.kind==4)=ar) (h:v.fields=p) :
 Sem Tryz.prog B 93 XY Q [(1, .ptr 0 0),(3, .bool false),(4, .bool false),(5, .bool false),(6, .bool v.has),(7, .bool false),(8, .bool false),(9, .bool ar)] ⟨[bh v],[]⟩:=by
 simp only[Sm.fields,Sm.flags]at h
 have⟨hY,hZ,gA,gB⟩:=bu
 refine Sem.ma ?_
 repeat' (first
 |simp only[go_sem,hY,hZ,gA,gB]
 |(with_reducible first|refine bq fun hc=>?_|refine br fun hc=>?_|refine bt (fun hc=>?_) fun hc=>?_)<;>(try simp only[hc,bs,↓reduceIte]at h)<;>try simp only[hc]
 |(with_reducible refine aB hQ ?_;(try cases h);simp only[cj,cr,dK,dL,go_sem,hY,hZ,gA,gB];repeat' (first|exact Ok.out|with_reducible refine kM ?_ ?_|(simp;done))))
 all_goals
  refine Sem.re _ _ 1 0 (by rw[hB];exact n7 rfl) (by rw[hB];exact n7 rfl) ?_ ?_ (Yg hf hB hQ e h)
  ·(simp only[go_sem,hY,hZ,gA,gB];repeat' (first|exact Ok.out|with_reducible refine kM ?_ ?_))
  ·(simp only[go_sem,hY,hZ,gA,gB];repeat' (first|exact Ok.out|with_reducible refine kM ?_ ?_))
end
theorem Yi {v:Sm} (hf:v.kJ) (s:St):aA Tryz.prog vO [.agg (bh v)] s (.bool v.fields) s:=by
 refine aA.pure ?_ (by simp[D.bN,D.ok,np]) rfl s
 unfold S0
 refine aA.goS Gp rfl fun B Q hB hQ=>?_
 have⟨hY,hZ,gA,gB⟩:=bu
 refine Sem.seq (b:=ae4) (jn ?_)
 repeat' (first
 |simp only[go_sem,hY,hZ,gA,gB]
 |(with_reducible refine aB hQ ?_;exact aU))
 refine Sem.seq (b:=ae3) (jn ?_)
 repeat' (first
 |simp only[go_sem,hY,hZ,gA,gB]
 |(with_reducible refine aB hQ ?_;exact aU))
 refine Sem.seq (b:=XY) (jn ?_)
 repeat' (first
 |simp only[go_sem,hY,hZ,gA,gB]
 |(with_reducible refine aB hQ ?_;exact aU))
 refine Sem.re _ _ 1 0 (by rw[hB];exact n7 rfl) (by rw[hB];exact n7 rfl) ?_ ?_ (Yh hf hB hQ rfl rfl)
 ·(simp only[go_sem,hY,hZ,gA,gB];repeat' (first|exact Ok.out|with_reducible refine kM ?_ ?_))
 ·(simp only[go_sem,hY,hZ,gA,gB];repeat' (first|exact Ok.out|with_reducible refine kM ?_ ?_))
end Go.Abs
namespace Go.Abs
set_option maxRecDepth 8000
open Go.Proofs
def fN (i:It):List D:= [.int .i64 i.s.id, .int .i64 i.s.kind, .slice .shared 1 (i.s.labels.map encStr), .str i.s.name, .str i.s.proc,
 .int .i64 i.s.x.op, .int .i64 i.s.x.n, .str i.s.x.name, .slice .shared 4 (i.s.x.kids.map bx), .bool i.s.has, .slice .shared 6 (i.s.args.map fb), .slice .shared 13 (i.s.aS.map bh), .slice .shared 13 (i.s.aL.map bh), .int .i64 i.deep, .int .i64 i.aN, .bool i.aL]
theorem Yj (i:It):D.bN 0 0 (fN i)=true:=by simp[fN,D.bN,D.ok,Tag.ok,fw,Z5,Ky,mZ]
theorem GG (l:List It):D.kc 0 0 (l.map fN)=true:=iL Yj l
theorem aiN (n m:Nat) (l:List It):D.lE n m (l.map fN)=l.map fN:=ov Yj n m l
theorem aiO (n m:Nat) (i:It):D.je n m (fN i)=fN i:=jx n m _ (Yj i)
theorem aaL (x:It):(fN x).length=16:=nd rfl
theorem afC (x:It):List.take 13 (fN x)=bh x.s:=by simp only[fN,dF];rfl
theorem Yk (x:It):(fN x)[0]? = some (.int .i64 x.s.id):=nd rfl
theorem UT (x:It):(fN x)[13]? = some (.int .i64 x.deep):=nd rfl
theorem Ih (s:Sm) (d n:Int) (e:Bool):fN ⟨s,d,n,e⟩ = [.int .i64 s.id, .int .i64 s.kind, .slice .shared 1 (s.labels.map encStr), .str s.name, .str s.proc,
 .int .i64 s.x.op, .int .i64 s.x.n, .str s.x.name, .slice .shared 4 (s.x.kids.map bx), .bool s.has, .slice .shared 6 (s.args.map fb), .slice .shared 13 (s.aS.map bh), .slice .shared 13 (s.aL.map bh), .int .i64 d, .int .i64 n, .bool e]:=nd rfl
attribute [go_sem] aiN aiO aaL afC Yk UT
theorem Mr (deep aN:Int) (aL:Bool) (out:List It) (s:Sm) :
 iF deep aN aL out s=if decide (deep≤12)then dW (deep+1) s.id true (dW (deep+1) s.id false (out++ [⟨s,deep,aN,aL⟩]) s.aS) s.aL else out++ [⟨s,deep,aN,aL⟩]:=by
 cases s;simp only[iF]
mutual
theorem UU (deep aN:Int) (aL:Bool) (out:List It) (h:out.length≤200) : ∀ s:Sm,(iF deep aN aL out s).length≤201
 |⟨id,kind,labels,name,proc,x,has,args,aS,e⟩=>by
  simp only[iF]
  have h1:(out++ [(⟨⟨id,kind,labels,name,proc,x,has,args,aS,e⟩,deep,aN,aL⟩:It)]).length≤201:=by simp;omega
  split
  ·exact kF _ _ _ _ (kF _ _ _ _ h1 aS) e
  ·exact h1
theorem kF (deep aN:Int) (aL:Bool) (out:List It) (h:out.length≤201) : ∀ l:List Sm,(dW deep aN aL out l).length≤201
 | []=>by simpa only[dW]using h
 | s::l=>by
  simp only[dW]
  split
  ·rename_i hc
   simp only[decide_eq_true_eq]at hc
   exact kF deep aN aL _ (UU _ _ _ _ (by omega) s) l
  ·exact h
end
abbrev UW (N:Nat):Prop:=∀ (l:List Sm) (deep aN:Int) (aL:Bool) (out:List It),Sm.aT l<N→0≤deep→deep≤13→out.length≤201→∀ {s:St} {t:Nat},s.aD[t]? = some (some out.length)→
 aA Tryz.prog nV [.slice .shared 13 (l.map bh), .int .i64 deep, .int .i64 aN, .bool aL, .slice (.tok t) 16 (out.map fN)] s (.slice (.tok t) 16 ((dW deep aN aL out l).map fN)) ⟨s.az,s.aD.set t (some (dW deep aN aL out l).length)⟩
theorem afD {N:Nat} (hN:N<4611686018427387904) (ih:UW N) {l:List Sm} {deep aN:Int} {aL:Bool} {out:List It} (hs:Sm.aT l<N+1) (Jb:0≤deep) (hd:deep≤13) (ho:out.length≤201) :
 aA Tryz.prog nV [.slice .shared 13 (l.map bh), .int .i64 deep, .int .i64 aN, .bool aL, .slice (.tok 0) 16 (out.map fN)] ⟨[],[some out.length]⟩ (.slice (.tok 0) 16 ((dW deep aN aL out l).map fN)) ⟨[],[some (dW deep aN aL out l).length]⟩:=by
 generalize hR:dW deep aN aL out l=R
 refine aA.go B9 rfl fun B Q hB hQ=>?_
 have⟨hY,hZ,gA,gB⟩:=bu
 repeat' (first
 |simp only[go_sem,hY,hZ,gA,gB]
 |(with_reducible refine aB hQ ?_;exact aU))
 refine cq 0 1 (bn.ind (ι:=List Sm×Nat×List It×Nat) (fun i=>l.drop i.2.1=i.1∧dW deep aN aL i.2.2.1 i.1=R∧i.2.2.1.length≤201∧i.2.2.2=i.2.2.1.length) (fun i=>i.1.length)
  (fun i=> [(0, .slice .shared 13 (l.map bh)),(1, .int .i64 deep),(2, .int .i64 aN),(3, .bool aL),(4, .slice (.tok 0) 16 (i.2.2.1.map fN)),(11, .int .i64 (i.2.1:Int))]) (fun i=>⟨[],[some i.2.2.2]⟩) ?_ (l,0,out,out.length) ⟨rfl,hR,ho,rfl⟩)
 rintro⟨rest,k,out,n⟩ ⟨h1,h2,h3,h4⟩ IH
 dsimp only at h1 h2 h3 h4
 subst h4
 have hlen:l.length<4611686018427387904:=by have:=Sm.cu l;omega
 cases rest with
 |nil=>
  have hY:=drop_nil h1
  simp only[dW]at h2
  subst h2
  repeat' (first
 |simp only[go_sem,hY,hZ,gA,gB]
 |(with_reducible refine aB hQ ?_;exact aU))
 | cons v rest=>
  obtain⟨hZ,g2,hY,g4⟩:=drop_cons h1
  have cd:k<4611686018427387904:=by omega
  have hv:=Sm.bJ (List.mem_of_getElem? hZ)
  have ql:Sm.aT v.aS<N∧Sm.aT v.aL<N:=by
   obtain⟨_,_,_,_,_,_,_,_,_,_⟩:=v
   simp only[Sm.size]at hv ⊢;omega
  simp only[dW]at h2
  by_cases hc:out.length≤200
  ·have c1:decide ((out.length:Int)≤200)=true:=by simp;omega
   simp only[c1,↓reduceIte,Mr]at h2
   have gA:(out.length+1)*233≤aF:=by unfold aF;omega
   have jc:(out++ [(⟨v,deep,aN,aL⟩:It)]).length≤201:=by simp;omega
   have hw:IntKind.wrap .i64 (deep+1)=deep+1:=bC (by omega) (by omega)
   by_cases at2:deep≤12
   ·have c2:decide (deep≤12)=true:=by simp;omega
    simp only[c2,↓reduceIte]at h2
    have f1:=fun {s:St} {t:Nat} (ht:s.aD[t]? = some (some (out++ [(⟨v,deep,aN,aL⟩:It)]).length))=>ih v.aS (deep+1) v.id false _ ql.1 (by omega) (by omega) jc ht
    have f2:=fun {s:St} {t:Nat} (ht:s.aD[t]? = some (some (dW (deep+1) v.id false (out++ [(⟨v,deep,aN,aL⟩:It)]) v.aS).length))=>ih v.aL (deep+1) v.id true _ ql.2 (by omega) (by omega) (kF _ _ _ _ jc _) ht
    simp only[List.map_append,List.map_cons,List.map_nil,Ih,List.length_append,List.length_cons,List.length_nil]at f1
    repeat' (first
 |simp only[go_sem,hY,hZ,gA,gB,c1,c2,hw,dF]
 |(with_reducible refine CU (f1 (by with_unfolding_all rfl)) ?_)
 |(with_reducible refine CU (f2 (by with_unfolding_all rfl)) ?_)
 | (with_reducible refine aB hQ ?_;exact aU))
    refine eQ 0 1 ?_ ?_ (IH (rest,k+1,_,_) ⟨g2,h2,kF _ _ _ _ (kF _ _ _ _ jc _) _,rfl⟩ (Nat.lt_succ_self _))
    ·(simp only[go_sem,hY,hZ,gA,gB,aM cd];try exact bQ)
    ·(simp only[go_sem,hY,hZ,gA,gB,aM cd];try exact bQ)
   ·have c2:decide (deep≤12)=false:=by simp;omega
    simp only[c2,Bool.false_eq_true,↓reduceIte]at h2
    repeat' (first
 |simp only[go_sem,hY,hZ,gA,gB,c1,c2,dF]
 | (with_reducible refine aB hQ ?_;exact aU))
    refine eQ 0 1 ?_ ?_ (IH (rest,k+1,out++ [⟨v,deep,aN,aL⟩],out.length+1) ⟨g2,h2,jc,by simp⟩ (Nat.lt_succ_self _))
    ·(simp only[go_sem,hY,hZ,gA,gB,aM cd,Ih,List.map_append,List.map_cons,List.map_nil];try exact bQ)
    ·(simp only[go_sem,hY,hZ,gA,gB,aM cd,Ih,List.map_append,List.map_cons,List.map_nil];try exact bQ)
  ·have c1:decide ((out.length:Int)≤200)=false:=by simp;omega
   simp only[c1,Bool.false_eq_true,↓reduceIte]at h2
   subst h2
   repeat' (first
 |simp only[go_sem,hY,hZ,gA,gB,c1]
 |(with_reducible refine aB hQ ?_;exact aU))
theorem Yl : ∀ N,N<4611686018427387904→UW N:=by
 intro N
 induction N with
 |zero=>exact fun _ l deep aN aL out h=>absurd h (Nat.not_lt_zero _)
 |succ N ih=>
  intro h l deep aN aL out hs Jb hd ho s t ht
  exact(afD (by omega) (ih (by omega)) hs Jb hd ho).aee (pre:= [_,_,_,_]) (post:= []) (by simp[D.bN,D.ok,Tag.ok,mZ]) rfl (GG out) (GG _) ht
theorem Ym {l:List Sm} (hs:Sm.aT l<4611686018427387000) (s:St) :
 aA Tryz.prog nV [.slice .shared 13 (l.map bh), .int .i64 1, .int .i64 0, .bool false, .slice .full 0 []] s (.slice .shared 16 ((dW 1 0 false [] l).map fN)) s:=by
 refine aA.pure ?_ (by simp[D.bN,D.ok,Tag.ok,mZ,D.kc]) (by simp[D.ok,Tag.ok,GG]) s
 obtain⟨N,hN⟩ : ∃ N,N=Sm.aT l:=⟨_,rfl⟩
 have ih:=Yl N (by omega)
 replace hs:Sm.aT l<N+1∧N<4611686018427387000:=by omega
 obtain⟨hs,hN⟩:=hs
 generalize hR:dW 1 0 false [] l=R
 obtain⟨deep,Sj⟩ : ∃ d:Int,d=1:=⟨_,rfl⟩
 obtain⟨aN,Yn⟩ : ∃ d:Int,d=0:=⟨_,rfl⟩
 obtain⟨aL,ug⟩ : ∃ d:Bool,d=false:=⟨_,rfl⟩
 rw[← Sj, ← Yn, ← ug]at hR
 rw[← Sj, ← Yn, ← ug]
 have Jb:0≤deep:=by omega
 have hd:deep≤13:=by omega
 clear Sj Yn ug
 have ho:([] : List It).length≤201:=Nat.zero_le _
 unfold S0
 refine aA.go B9 rfl fun B Q hB hQ=>?_
 have⟨hY,hZ,gA,gB⟩:=bu
 repeat' (first
 |simp only[go_sem,hY,hZ,gA,gB]
 |(with_reducible refine aB hQ ?_;exact aU))
 refine bn.oZ 4 16 rfl ?_
 simp only[go_sem,hY,hZ,gA,gB]
 refine cq 0 1 (bn.ind (ι:=List Sm×Nat×List It×Nat) (fun i=>l.drop i.2.1=i.1∧dW deep aN aL i.2.2.1 i.1=R∧i.2.2.1.length≤201∧i.2.2.2=i.2.2.1.length) (fun i=>i.1.length)
  (fun i=> [(0, .slice .shared 13 (l.map bh)),(1, .int .i64 deep),(2, .int .i64 aN),(3, .bool aL),(4, .slice (.tok 0) 16 (i.2.2.1.map fN)),(11, .int .i64 (i.2.1:Int))]) (fun i=>⟨[],[some i.2.2.2]⟩) ?_ (l,0,[],0) ⟨rfl,hR,ho,rfl⟩)
 rintro⟨rest,k,out,n⟩ ⟨h1,h2,h3,h4⟩ IH
 dsimp only at h1 h2 h3 h4
 subst h4
 have hlen:l.length<4611686018427387904:=by have:=Sm.cu l;omega
 cases rest with
 |nil=>
  have hY:=drop_nil h1
  simp only[dW]at h2
  subst h2
  repeat' (first
 |simp only[go_sem,hY,hZ,gA,gB]
 |(with_reducible refine aB hQ ?_;exact aU))
 | cons v rest=>
  obtain⟨hZ,g2,hY,g4⟩:=drop_cons h1
  have cd:k<4611686018427387904:=by omega
  have hv:=Sm.bJ (List.mem_of_getElem? hZ)
  have ql:Sm.aT v.aS<N∧Sm.aT v.aL<N:=by
   obtain⟨_,_,_,_,_,_,_,_,_,_⟩:=v
   simp only[Sm.size]at hv ⊢;omega
  simp only[dW]at h2
  by_cases hc:out.length≤200
  ·have c1:decide ((out.length:Int)≤200)=true:=by simp;omega
   simp only[c1,↓reduceIte,Mr]at h2
   have gA:(out.length+1)*233≤aF:=by unfold aF;omega
   have jc:(out++ [(⟨v,deep,aN,aL⟩:It)]).length≤201:=by simp;omega
   have hw:IntKind.wrap .i64 (deep+1)=deep+1:=bC (by omega) (by omega)
   by_cases at2:deep≤12
   ·have c2:decide (deep≤12)=true:=by simp;omega
    simp only[c2,↓reduceIte]at h2
    have f1:=fun {s:St} {t:Nat} (ht:s.aD[t]? = some (some (out++ [(⟨v,deep,aN,aL⟩:It)]).length))=>ih v.aS (deep+1) v.id false _ ql.1 (by omega) (by omega) jc ht
    have f2:=fun {s:St} {t:Nat} (ht:s.aD[t]? = some (some (dW (deep+1) v.id false (out++ [(⟨v,deep,aN,aL⟩:It)]) v.aS).length))=>ih v.aL (deep+1) v.id true _ ql.2 (by omega) (by omega) (kF _ _ _ _ jc _) ht
    simp only[List.map_append,List.map_cons,List.map_nil,Ih,List.length_append,List.length_cons,List.length_nil]at f1
    repeat' (first
 |simp only[go_sem,hY,hZ,gA,gB,c1,c2,hw,dF]
 |(with_reducible refine CU (f1 (by with_unfolding_all rfl)) ?_)
 |(with_reducible refine CU (f2 (by with_unfolding_all rfl)) ?_)
 | (with_reducible refine aB hQ ?_;exact aU))
    refine eQ 0 1 ?_ ?_ (IH (rest,k+1,_,_) ⟨g2,h2,kF _ _ _ _ (kF _ _ _ _ jc _) _,rfl⟩ (Nat.lt_succ_self _))
    ·(simp only[go_sem,hY,hZ,gA,gB,aM cd];try exact bQ)
    ·(simp only[go_sem,hY,hZ,gA,gB,aM cd];try exact bQ)
   ·have c2:decide (deep≤12)=false:=by simp;omega
    simp only[c2,Bool.false_eq_true,↓reduceIte]at h2
    repeat' (first
 |simp only[go_sem,hY,hZ,gA,gB,c1,c2,dF]
 | (with_reducible refine aB hQ ?_;exact aU))
    refine eQ 0 1 ?_ ?_ (IH (rest,k+1,out++ [⟨v,deep,aN,aL⟩],out.length+1) ⟨g2,h2,jc,by simp⟩ (Nat.lt_succ_self _))
    ·(simp only[go_sem,hY,hZ,gA,gB,aM cd,Ih,List.map_append,List.map_cons,List.map_nil];try exact bQ)
    ·(simp only[go_sem,hY,hZ,gA,gB,aM cd,Ih,List.map_append,List.map_cons,List.map_nil];try exact bQ)
  ·have c1:decide ((out.length:Int)≤200)=false:=by simp;omega
   simp only[c1,Bool.false_eq_true,↓reduceIte]at h2
   subst h2
   repeat' (first
 |simp only[go_sem,hY,hZ,gA,gB,c1]
 |(with_reducible refine aB hQ ?_;exact aU))
theorem UX {f:Pc} (hs:Sm.aT f.body<4611686018427387000) (s:St):aA Tryz.prog uJ [.agg (cH f)] s (.slice .shared 16 (f.flat.map fN)) s:=by
 refine aA.pure ?_ (by simp only[D.bN,D.ok,Bf];rfl) (by simp[D.ok,Tag.ok,GG]) s
 have h:=fun s=>Ym hs s
 unfold S0
 refine aA.go J5 rfl fun B Q hB hQ=>?_
 have⟨hY,hZ,gA,gB⟩:=bu
 repeat' (first
 |simp only[go_sem,hY,hZ,gA,gB,Pc.flat]
 |(with_reducible refine CU (h _) ?_)
 |(with_reducible first|refine bq fun hc=>?_|refine br fun hc=>?_|refine bt (fun hc=>?_) fun hc=>?_)<;>(try simp only[hc,bs,↓reduceIte]at h)<;>try simp only[hc]
 |(with_reducible refine aB hQ ?_;simp only[cj,cr,dK,dL,go_sem,hY,hZ,gA,gB,Pc.flat];try exact dM))
end Go.Abs
namespace Go.Abs
set_option maxRecDepth 8000
open Go.Proofs
theorem Pc.Ms (f:Pc):f.flat.length≤201:=kF _ _ _ _ (Nat.zero_le _) _
theorem aiP {p:Pg} (hs:Pc.aT p.procs<4611686018427387000) (s:St):aA Tryz.prog Bg [.agg (bY p)] s (.slice .shared 16 (p.all.map fN)) s:=by
 refine aA.pure ?_ (by simp only[D.bN,D.ok,jP];rfl) (by simp[D.ok,Tag.ok,GG]) s
 have hlen:p.procs.length<4611686018427387904:=by have:=Pc.cu p.procs;omega
 generalize hR:p.all=R
 unfold Pg.all at hR
 unfold S0
 refine aA.go L8 rfl fun B Q hB hQ=>?_
 have⟨hY,hZ,gA,gB⟩:=bu
 repeat' (first
 |simp only[go_sem,hY,hZ,gA,gB]
 |(with_reducible refine aB hQ ?_;exact aU))
 refine bn.oZ 3 16 rfl ?_
 simp only[go_sem,hY,hZ,gA,gB]
 refine cq 1 1 (bn.ind (ι:=List Pc×Nat×List It×Nat) (fun i=>p.procs.drop i.2.1=i.1∧allM i.2.2.1 i.1=R∧i.2.2.1.length≤200∧i.2.2.2=i.2.2.1.length) (fun i=>i.1.length)
  (fun i=> [(1, .ptr 0 0),(3, .slice (.tok 0) 16 (i.2.2.1.map fN)),(7, .slice .shared 5 (p.procs.map cH)),(8, .int .i64 (p.procs.length:Int)),(9, .int .i64 (i.2.1:Int))]) (fun i=>⟨[bY p],[some i.2.2.2]⟩) ?_ (p.procs,0,[],0) ⟨rfl,hR,Nat.zero_le _,rfl⟩)
 rintro⟨rest,k,out,n⟩ ⟨h1,h,h3,h4⟩ IH
 dsimp only at h1 h h3 h4
 subst h4
 cases rest with
 |nil=>
  have hY:=drop_nil h1
  simp only[allM]at h
  subst h
  repeat' (first
 |simp only[go_sem,hY,hZ,gA,gB]
 |(with_reducible refine aB hQ ?_;exact aU))
 |cons f rest=>
  obtain⟨hZ,g2,hY,g4⟩:=drop_cons h1
  have cd:k<4611686018427387904:=by omega
  have hf:=Pc.bJ (List.mem_of_getElem? hZ)
  have hb:Sm.aT f.body<4611686018427387000:=by simp only[Pc.size]at hf;omega
  have ml:=fun s=>UX hb s
  have aBU:=f.Ms
  have gA:(out.length+f.flat.length)*233≤aF:=by unfold aF;omega
  simp only[allM,List.length_append]at h
  have hO:=fun(o:List (List D))=>LV (size:=16) (bytes:=232) (t:=0) (rows:=out.map fN) (new:=f.flat.map fN) (g:= .shared) (s:=⟨o,[some out.length]⟩) (by simpa using gA) (by simp)
  repeat' (first
 |simp only[go_sem,hY,hZ,gA,gB,hO]
 |(with_reducible refine CU (ml _) ?_)
 |(with_reducible first|refine bq fun hc=>?_|refine br fun hc=>?_|refine bt (fun hc=>?_) fun hc=>?_)<;>(try simp only[hc,bs,↓reduceIte]at h)<;>try simp only[hc]
 |(with_reducible refine aB hQ ?_;(try cases h);simp only[cj,cr,dK,dL,go_sem,hY,hZ,gA,gB,hO];try exact dM))
  refine eQ 1 1 ?_ ?_ (IH (rest,k+1,out++f.flat,out.length+f.flat.length) ⟨g2,h,by rename_i hc;simp only[decide_eq_false_iff_not]at hc;simp only[List.length_append];omega,by simp⟩ (Nat.lt_succ_self _))
  ·(simp only[go_sem,hY,hZ,gA,gB,aM cd];try exact bQ)
  ·(simp only[go_sem,hY,hZ,gA,gB,aM cd];try exact bQ)
structure Pg.kJ (p:Pg):Prop where
 sz:p.size<4611686018427387000
 Ii : ∀ t∈p.globals,t.length<4611686018427387904
 nI : ∀ f∈p.procs,f.name.length<4611686018427387904∧(∀ t∈f.vars,t.length<4611686018427387904)∧(∀ t∈f.fin,t.length<4611686018427387904)∧∀ a∈f.params,a.name.length<4611686018427387904
 items : ∀ i∈p.all,i.s.kJ
theorem Mt : ∀ (l:List Pc) (out:List It),out.length≤200→(allM out l).length≤401
 | [],out,h=>by simp only[allM];omega
 | f::l,out,h=>by
  have:=f.Ms
  simp only[allM]
  split
  ·simp;omega
  ·rename_i hc
   exact Mt l _ (by simp only[decide_eq_true_eq]at hc;omega)
theorem aiQ {p:Pg} (hf:p.kJ) (s:St):aA Tryz.prog Bh [.agg (bY p)] s (.bool p.may) s:=by
 refine aA.pure ?_ (by simp only[D.bN,D.ok,jP];rfl) rfl s
 obtain⟨ew,wk,Mu,afE⟩:=hf
 have q7:Pc.aT p.procs<4611686018427387000:=by simp only[Pg.size]at ew;omega
 have Sk:p.globals.length<4611686018427387904:=by simp only[Pg.size]at ew;omega
 have aiR:p.procs.length<4611686018427387904:=by have:=Pc.cu p.procs;omega
 have hg:=fun s=>Br Sk wk s
 have ry:=fun s=>aiP q7 s
 have rr:p.all.length≤401:=Mt _ _ (Nat.zero_le _)
 unfold S0
 generalize h:p.may=R
 unfold Pg.may at h
 refine aA.go Mb rfl fun B Q hB hQ=>?_
 have⟨hY,hZ,gA,gB⟩:=bu
 repeat' (first
 |simp only[go_sem,hY,hZ,gA,gB]
 |(with_reducible refine CU (hg _) ?_)
 |(with_reducible first|refine bq fun hc=>?_|refine br fun hc=>?_|refine bt (fun hc=>?_) fun hc=>?_)<;>(try simp only[hc,bs,↓reduceIte]at h)<;>try simp only[hc]
 |(with_reducible refine aB hQ ?_;exact eo))
 refine cq 1 0 (bn.ind (ι:=List Pc×Nat) (fun i=>p.procs.drop i.2=i.1∧(if !(Pc.nI i.1)then false else if decide ((p.all.length:Int) > 200)then false else It.e7 0 p.all)=R) (fun i=>i.1.length)
  (fun i=> [(1, .ptr 0 0),(26, .slice .shared 5 (p.procs.map cH)),(27, .int .i64 (p.procs.length:Int)),(28, .int .i64 (i.2:Int))]) (fun i=>⟨[bY p],[]⟩) ?_ (p.procs,0) ⟨rfl,h⟩)
 rintro⟨rest,k⟩ ⟨h1,h⟩ IH
 dsimp only at h1 h
 cases rest with
 |nil=>
  have hY:=drop_nil h1
  simp only[Pc.nI,Bool.not_true,Bool.false_eq_true,↓reduceIte]at h
  repeat' (first
 |simp only[go_sem,hY,hZ,gA,gB]
 |(with_reducible refine CU (ry _) ?_)
 |(with_reducible first|refine bq fun hc=>?_|refine br fun hc=>?_|refine bt (fun hc=>?_) fun hc=>?_)<;>(try simp only[hc,bs,↓reduceIte]at h)<;>try simp only[hc]
 |(with_reducible refine aB hQ ?_;exact eo)
 | (cases h;done))
  clear IH
  refine cq 1 0 (bn.ind (ι:=List It×Nat) (fun i=>p.all.drop i.2=i.1∧It.e7 i.2 i.1=R) (fun i=>i.1.length)
   (fun i=> [(1, .ptr 0 0),(7, .slice .shared 16 (p.all.map fN)),(79, .int .i64 (p.all.length:Int)),(80, .int .i64 (i.2:Int))]) (fun i=>⟨[bY p],[]⟩) ?_ (p.all,0) ⟨rfl,h⟩)
  rintro⟨rest,k⟩ ⟨h1,h⟩ IH
  dsimp only at h1 h
  cases rest with
  |nil=>
   have hY:=drop_nil h1
   simp only[It.e7]at h
   repeat' (first
 |simp only[go_sem,hY,hZ,gA,gB]
 |(with_reducible first|refine bq fun hc=>?_|refine br fun hc=>?_|refine bt (fun hc=>?_) fun hc=>?_)<;>(try simp only[hc,bs,↓reduceIte]at h)<;>try simp only[hc]
 |(with_reducible refine aB hQ ?_;exact eo)
 | (cases h;done))
  |cons i rest=>
   obtain⟨hZ,g2,hY,g4⟩:=drop_cons h1
   have hi:=fun s=>Gy (afE i (List.mem_of_getElem? hZ)) s
   have gA:k<4611686018427387904:=by omega
   simp only[It.e7]at h
   repeat' (first
 |simp only[go_sem,hY,hZ,gA,gB,aM gA]
 |(with_reducible refine CU (hi _) ?_)
 |(with_reducible first|refine bq fun hc=>?_|refine br fun hc=>?_|refine bt (fun hc=>?_) fun hc=>?_)<;>(try simp only[hc,bs,↓reduceIte]at h)<;>try simp only[hc]
 |(with_reducible refine aB hQ ?_;(try cases h);simp only[cj,cr,dK,dL,go_sem,hY,hZ,gA,gB,aM gA];try exact dM)
 | (cases h;done))
   refine eQ 1 0 ?_ ?_ (IH (rest,k+1) ⟨g2,h⟩ (Nat.lt_succ_self _))
   ·(simp only[go_sem,hY,hZ,gA,gB,aM gA];try exact bQ)
   ·(simp only[go_sem,hY,hZ,gA,gB,aM gA];try exact bQ)
 |cons f rest=>
  obtain⟨hZ,g2,hY,g4⟩:=drop_cons h1
  have cd:k<4611686018427387904:=by omega
  have yF:=Pc.bJ (List.mem_of_getElem? hZ)
  simp only[Pc.size]at yF
  obtain⟨wo,hfv,hff,hfp⟩:=Mu f (List.mem_of_getElem? hZ)
  have hn:=uc f.name wo
  have hv:=fun s=>Br (by omega) hfv s
  have he:=fun s=>Br (by omega) hff s
  simp only[Pc.nI]at h
  repeat' (first
 |simp only[go_sem,hY,hZ,gA,gB]
 |(with_reducible refine CU (hn _) ?_)
 |(with_reducible refine CU (hv _) ?_)
 |(with_reducible refine CU (he _) ?_)
 |(with_reducible first|refine bq fun hc=>?_|refine br fun hc=>?_|refine bt (fun hc=>?_) fun hc=>?_)<;>(try simp only[hc,bs,↓reduceIte]at h)<;>try simp only[hc]
 |(with_reducible refine aB hQ ?_;exact eo)
 | (cases h;done))
  refine cq 1 0 (bn.ind (ι:=List Pm×Nat) (fun i=>f.params.drop i.2=i.1∧(if !(if !(Pm.e7 i.1)then false else Pc.nI rest)then false else if decide ((p.all.length:Int) > 200)then false else It.e7 0 p.all)=R) (fun i=>i.1.length)
   (fun i=> [(1, .ptr 0 0),(26, .slice .shared 5 (p.procs.map cH)),(27, .int .i64 (p.procs.length:Int)),(28, .int .i64 (k:Int)),(61, .slice .shared 2 (f.params.map fC)),(62, .int .i64 (f.params.length:Int)),(63, .int .i64 (i.2:Int))]) (fun i=>⟨[bY p],[]⟩) ?_ (f.params,0) ⟨rfl,h⟩)
  rintro⟨Bv,j⟩ ⟨j1,h⟩ vo
  dsimp only at j1 h
  cases Bv with
  |nil=>
   have hY:=drop_nil j1
   simp only[Pm.e7,Bool.not_true,Bool.false_eq_true,↓reduceIte]at h
   repeat' (first
 |simp only[go_sem,hY,hZ,gA,gB]
 |(with_reducible first|refine bq fun hc=>?_|refine br fun hc=>?_|refine bt (fun hc=>?_) fun hc=>?_)<;>(try simp only[hc,bs,↓reduceIte]at h)<;>try simp only[hc]
 |(with_reducible refine aB hQ ?_;exact eo)
 | (cases h;done))
   refine eQ 1 0 ?_ ?_ (IH (rest,k+1) ⟨g2,h⟩ (Nat.lt_succ_self _))
   ·(simp only[go_sem,hY,hZ,gA,gB,aM cd];try exact bQ)
   ·(simp only[go_sem,hY,hZ,gA,gB,aM cd];try exact bQ)
  |cons a Bv=>
   obtain⟨hZ,b2,hY,b4⟩:=drop_cons j1
   have Jc:j<4611686018427387904:=by omega
   have ha:=uc a.name (hfp a (List.mem_of_getElem? hZ))
   simp only[Pm.e7]at h
   repeat' (first
 |simp only[go_sem,hY,hZ,gA,gB]
 |(with_reducible refine CU (ha _) ?_)
 |(with_reducible first|refine bq fun hc=>?_|refine br fun hc=>?_|refine bt (fun hc=>?_) fun hc=>?_)<;>(try simp only[hc,bs,↓reduceIte]at h)<;>try simp only[hc]
 |(with_reducible refine aB hQ ?_;exact eo)
 | (cases h;done))
   refine eQ 1 0 ?_ ?_ (vo (Bv,j+1) ⟨b2,h⟩ (Nat.lt_succ_self _))
   ·(simp only[go_sem,hY,hZ,gA,gB,aM Jc];try exact bQ)
   ·(simp only[go_sem,hY,hZ,gA,gB,aM Jc];try exact bQ)
def gate (nest:Int) (len n:Nat) (r:Bool×Nat):Bool×Nat:=if decide (nest > 12) && decide ((len:Int) > 0)then(false,n)else r
mutual
def Sm.jU (nest:Int) (n:Nat):Sm→Bool×Nat
 |⟨id,kind,labels,name,proc,x,has,args,aS,aL⟩=>
  if decide (((n+1:Nat):Int) > 200) ||id != ((n+1:Nat):Int) || !(dn labels) || !(Sm.fields ⟨id,kind,labels,name,proc,x,has,args,aS,aL⟩)then(false,n+1)
  else if !(gate (nest+1) aS.length (n+1) (Sm.dA (nest+1) (n+1) aS)).1 then(false,(gate (nest+1) aS.length (n+1) (Sm.dA (nest+1) (n+1) aS)).2)
  else gate (nest+1) aL.length (gate (nest+1) aS.length (n+1) (Sm.dA (nest+1) (n+1) aS)).2 (Sm.dA (nest+1) (gate (nest+1) aS.length (n+1) (Sm.dA (nest+1) (n+1) aS)).2 aL)
def Sm.dA (nest:Int) (n:Nat):List Sm→Bool×Nat
 | []=>(true,n)
 |s::l=>if !(Sm.jU nest n s).1 then(false,(Sm.jU nest n s).2)else Sm.dA nest (Sm.jU nest n s).2 l
end
def Sm.gF (nest:Int) (n:Nat) (l:List Sm):Bool×Nat:=gate nest l.length n (Sm.dA nest n l)
theorem Ij (nest:Int) (n:Nat) (s:Sm):Sm.jU nest n s =
 if decide (((n+1:Nat):Int) > 200) ||s.id != ((n+1:Nat):Int) || !(dn s.labels) || !(s.fields)then(false,n+1)
 else if !(Sm.gF (nest+1) (n+1) s.aS).1 then(false,(Sm.gF (nest+1) (n+1) s.aS).2)
 else Sm.gF (nest+1) (Sm.gF (nest+1) (n+1) s.aS).2 s.aL:=by
 cases s;simp only[Sm.jU,Sm.gF];rfl
mutual
def Sm.uO:Sm→Prop
 |⟨id,kind,labels,name,proc,x,has,args,aS,aL⟩=>Sm.kJ ⟨id,kind,labels,name,proc,x,has,args,aS,aL⟩∧Sm.j8 aS∧Sm.j8 aL
def Sm.j8:List Sm→Prop
 | []=>True
 |s::l=>s.uO∧Sm.j8 l
end
theorem Fw (s:Sm):s.uO↔s.kJ∧Sm.j8 s.aS∧Sm.j8 s.aL:=by cases s;simp only[Sm.uO]
theorem GH {s:Sm} : ∀ {l:List Sm},Sm.j8 l→s∈l→s.uO
 |y::l,h,m=>by
  simp only[Sm.j8]at h
  rcases List.mem_cons.1 m with rfl|m
  ·exact h.1
  ·exact GH h.2 m
mutual
theorem acg (nest:Int) (n:Nat) : ∀ s:Sm,n≤201→(Sm.jU nest n s).2≤202∧((Sm.jU nest n s).1=true→(Sm.jU nest n s).2≤200)
 | ⟨id,kind,labels,name,proc,x,has,args,aS,aL⟩,hn=>by
  simp only[Sm.jU]
  split
  ·exact⟨by dsimp only;omega,fun h=>by cases h⟩
  rename_i hc
  simp only[Bool.or_eq_true,decide_eq_true_eq,not_or]at hc
  have Cb:n+1≤200:=by omega
  have g1 : ∀ (nest:Int) (l:List Sm) (m:Nat),m≤200→(Sm.dA nest m l).2≤202∧((Sm.dA nest m l).1=true→(Sm.dA nest m l).2≤200)→
   (gate nest l.length m (Sm.dA nest m l)).2≤202∧((gate nest l.length m (Sm.dA nest m l)).1=true→(gate nest l.length m (Sm.dA nest m l)).2≤200):=by
   intro nest l m hm h
   unfold gate
   split
   ·exact⟨by dsimp only;omega,fun h=>by cases h⟩
   ·exact h
  have h1:=g1 (nest+1) aS (n+1) Cb (DY (nest+1) (n+1) aS Cb)
  split
  ·exact⟨h1.1,fun h=>by cases h⟩
  rename_i oQ
  have h2:=h1.2 (by simpa using oQ)
  exact g1 (nest+1) aL _ h2 (DY (nest+1) _ aL h2)
theorem DY (nest:Int) (n:Nat) : ∀ l:List Sm,n≤200→(Sm.dA nest n l).2≤202∧((Sm.dA nest n l).1=true→(Sm.dA nest n l).2≤200)
 | [],hn=>by simp only[Sm.dA];exact⟨by omega,fun _=>hn⟩
 |s::l,hn=>by
  simp only[Sm.dA]
  have h1:=acg nest n s (by omega)
  split
  ·exact⟨h1.1,fun h=>by cases h⟩
  rename_i hc
  exact DY nest _ l (h1.2 (by simpa using hc))
end
theorem Ik {nest:Int} {n:Nat} {l:List Sm} (hn:n≤200):(Sm.gF nest n l).2≤202∧((Sm.gF nest n l).1=true→(Sm.gF nest n l).2≤200):=by
 unfold Sm.gF gate
 split
 ·exact⟨by dsimp only;omega,fun h=>by cases h⟩
 ·exact DY nest n l hn
theorem ach : ∀ (m:Nat) (l:List Sm),Sm.aT l≤m→Sm.aT l<4611686018427387000→Sm.j8 l→∀ (nest:Int) (n:Nat),0≤nest→nest≤13→n≤200→
 aA Tryz.prog lq [.ptr 0 0, .slice .shared 13 (l.map bh), .int .i64 nest] ⟨[[.int .i64 n]],[]⟩ (.bool (Sm.gF nest n l).1) ⟨[[.int .i64 (Sm.gF nest n l).2]],[]⟩:=by
 intro m
 induction m with
 | zero=>
  intro l h hs hf nest n h0 UF hn
  cases l with
  |nil=>
   have d1:decide ((0:Int) > 0)=false:=rfl
   have e:Sm.gF nest n [] = (true,n):=by simp[Sm.gF,gate,Sm.dA]
   have z:decide ((0:Int)<0)=false:=rfl
   rw[e]
   refine aA.go s7 rfl fun B Q hB hQ=>?_
   have⟨hY,hZ,gA,gB⟩:=bu
   repeat' (first
 |simp only[go_sem,hY,hZ,gA,gB,d1,z]
 |(with_reducible refine bn.uH ?_)
 |(with_reducible first|refine bq fun hc=>?_|refine br fun hc=>?_|refine bt (fun hc=>?_) fun hc=>?_)<;>(try simp only[hc,bs,↓reduceIte]at h)<;>try simp only[hc]
 |(with_reducible refine aB hQ ?_;exact aU))
  |cons s l=>simp only[Sm.aT]at h;omega
 |succ m ih=>
  intro l h hs hf nest n h0 UF hn
  generalize hR:Sm.gF nest n l=R
  have hlen:=Sm.cu l
  unfold Sm.gF gate at hR
  have h:=hR
  refine aA.go s7 rfl fun B Q hB hQ=>?_
  have⟨hY,hZ,gA,gB⟩:=bu
  repeat' (first
 |simp only[go_sem,hY,hZ,gA,gB]
 |(with_reducible first|refine bq fun hc=>?_|refine br fun hc=>?_|refine bt (fun hc=>?_) fun hc=>?_)<;>(try simp only[hc,bs,↓reduceIte]at h)<;>try simp only[hc]
 | (with_reducible refine aB hQ ?_;(try cases h);simp only[cj,cr,dK,dL,go_sem,hY,hZ,gA,gB];repeat' (first|exact Ok.out|with_reducible refine kM ?_ ?_|(simp;done))))
  all_goals
   have aiS:l≠ []→nest≤12:=by
    intro eB
    have:l.length≠0:=by simpa using eB
    simp_all<;>omega
   refine cq 1 0 (bn.ind (ι:=List Sm×Nat×Nat) (fun i=>l.drop i.2.1=i.1∧Sm.dA nest i.2.2 i.1=R∧i.2.2≤200) (fun i=>i.1.length)
    (fun i=> [(0, .ptr 0 0),(2, .int .i64 nest),(16, .slice .shared 13 (l.map bh)),(17, .int .i64 (l.length:Int)),(18, .int .i64 (i.2.1:Int))]) (fun i=>⟨[[.int .i64 (i.2.2:Int)]],[]⟩) ?_ (l,0,n) ⟨rfl,h,hn⟩)
   rintro⟨rest,k,j⟩ ⟨h1,h,hj⟩ IH
   dsimp only at h1 h hj
   cases rest with
   |nil=>
    have hY:=drop_nil h1
    simp only[Sm.dA]at h
    repeat' (first
 |simp only[go_sem,hY,hZ,gA,gB]
 |(with_reducible first|refine bq fun hc=>?_|refine br fun hc=>?_|refine bt (fun hc=>?_) fun hc=>?_)<;>(try simp only[hc,bs,↓reduceIte]at h)<;>try simp only[hc]
 | (with_reducible refine aB hQ ?_;exact eo))
   | cons s rest=>
    obtain⟨hZ,g2,hY,g4⟩:=drop_cons h1
    have gA:k<4611686018427387904:=by omega
    have iW:=List.mem_of_getElem? hZ
    have ew:=Sm.bJ iW
    have aBV:=aiS (by rintro rfl;simp at iW)
    obtain⟨FY,hft,hfe⟩:=(Fw s).1 (GH hf iW)
    have Lm:Sm.aT s.aS<s.size∧Sm.aT s.aL<s.size:=by cases s;simp only[Sm.size];omega
    have w1:IntKind.wrap .i64 ((j:Int)+1)=((j+1:Nat):Int):=by rw[bC]<;>omega
    have w2:IntKind.wrap .i64 (nest+1)=nest+1:=bC (by omega) (by omega)
    have c1:=fun s=>Bu FY.afs FY.Da s
    have c2:=fun s=>Yi FY s
    simp only[Sm.dA,Ij]at h
    by_cases Jc:j+1≤200
    ·have r1:=Ik (nest:=nest+1) (l:=s.aS) Jc
     have c3:=fun s' ho=>(ih s.aS (by omega) (by omega) hft (nest+1) (j+1) (by omega) (by omega) Jc).lL (s:=s') (o:=0) (by simp[D.bN,D.ok,mZ,Tag.ok]) rfl rfl rfl ho
     by_cases Cc:(Sm.gF (nest+1) (j+1) s.aS).1=true
     ·have c4:=fun s' ho=>(ih s.aL (by omega) (by omega) hfe (nest+1) _ (by omega) (by omega) (r1.2 Cc)).lL (s:=s') (o:=0) (by simp [D.bN,D.ok,mZ,Tag.ok]) rfl rfl rfl ho
      have r2:=Ik (nest:=nest+1) (l:=s.aL) (r1.2 Cc)
      simp only[Cc]at c3
      simp only[Cc,Bool.not_true,Bool.false_eq_true,↓reduceIte]at h
      repeat' (first
 |simp only[go_sem,hY,hZ,gA,gB,w1,w2,Cc]
 |(with_reducible refine CU (c1 _) ?_)
 |(with_reducible refine CU (c2 _) ?_)
 |(with_reducible refine CU (c3 _ rfl) ?_)
 |(with_reducible refine CU (c4 _ rfl) ?_)
 |(with_reducible first|refine bq fun hc=>?_|refine br fun hc=>?_|refine bt (fun hc=>?_) fun hc=>?_)<;>(try simp only[hc,bs,↓reduceIte]at h)<;>try simp only[hc]
 |(with_reducible refine aB hQ ?_;(try cases h);simp only[cj,cr,dK,dL,go_sem,hY,hZ,gA,gB,w1,w2,Cc];try exact dM))
      refine cq 1 0 (IH (rest,k+1,(Sm.gF (nest+1) (Sm.gF (nest+1) (j+1) s.aS).2 s.aL).2) ⟨g2,h,r2.2 (by assumption)⟩ (Nat.lt_succ_self _))
     ·have Cc:(Sm.gF (nest+1) (j+1) s.aS).1=false:=by simpa using Cc
      simp only[Cc]at c3
      simp only[Cc,Bool.not_false,↓reduceIte]at h
      repeat' (first
 |simp only[go_sem,hY,hZ,gA,gB,w1,w2,Cc]
 |(with_reducible refine CU (c1 _) ?_)
 |(with_reducible refine CU (c2 _) ?_)
 |(with_reducible refine CU (c3 _ rfl) ?_)
 |(with_reducible first|refine bq fun hc=>?_|refine br fun hc=>?_|refine bt (fun hc=>?_) fun hc=>?_)<;>(try simp only[hc,bs,↓reduceIte]at h)<;>try simp only[hc]
 | (with_reducible refine aB hQ ?_;(try cases h);simp only [cj,cr,dK,dL,go_sem,hY,hZ,gA,gB,w1,w2,Cc];try exact dM))
    ·have d1:decide (((j+1:Nat):Int) > 200)=true:=by simp;omega
     simp only[d1,Bool.true_or,Bool.not_false,↓reduceIte]at h
     repeat' (first
 |simp only[go_sem,hY,hZ,gA,gB,w1,w2,d1]
 |(with_reducible refine CU (c1 _) ?_)
 |(with_reducible refine CU (c2 _) ?_)
 |(with_reducible first|refine bq fun hc=>?_|refine br fun hc=>?_|refine bt (fun hc=>?_) fun hc=>?_)<;>(try simp only[hc,bs,↓reduceIte]at h)<;>try simp only[hc]
 |(with_reducible refine aB hQ ?_;(try cases h);simp only[cj,cr,dK,dL,go_sem,hY,hZ,gA,gB,w1,w2,d1];try exact dM))
def Pc.dA (n:Nat):List Pc→Bool
 | []=>true
 |f::l=>
  if decide ((f.params.length:Int) > 8) ||decide ((f.vars.length:Int) > 16) || !(isName f.name) || !(dn f.vars) || !(dn f.fin)then false
  else if !(Pm.e7 f.params)then false
  else if !(Sm.gF 1 n f.body).1 then false
  else Pc.dA (Sm.gF 1 n f.body).2 l
def Pg.zH (p:Pg):Bool:=
 if decide ((p.globals.length:Int) > 16) ||decide ((p.procs.length:Int) > 16) || !(dn p.globals)then false
 else Pc.dA 0 p.procs
structure Pg.GM (p:Pg):Prop where
 sz:p.size<4611686018427387000
 Ii : ∀ t∈p.globals,t.length<4611686018427387904
 nI : ∀ f∈p.procs,f.name.length<4611686018427387904∧(∀ t∈f.vars,t.length<4611686018427387904)∧(∀ t∈f.fin,t.length<4611686018427387904)∧∀ a∈f.params,a.name.length<4611686018427387904
 body : ∀ f∈p.procs,Sm.j8 f.body
theorem UY {p:Pg} (hf:p.GM) (s:St):aA Tryz.prog wG [.agg (bY p)] s (.bool p.zH) s:=by
 refine aA.pure ?_ (by simp only[D.bN,D.ok,jP];rfl) rfl s
 obtain⟨ew,wk,Mu,Qo⟩:=hf
 have q7:Pc.aT p.procs<4611686018427387000:=by simp only[Pg.size]at ew;omega
 have Sk:p.globals.length<4611686018427387904:=by simp only[Pg.size]at ew;omega
 have aiR:p.procs.length<4611686018427387904:=by have:=Pc.cu p.procs;omega
 have hg:=fun s=>Bu Sk wk s
 unfold S0
 generalize h:p.zH=R
 unfold Pg.zH at h
 refine aA.go L7 rfl fun B Q hB hQ=>?_
 have⟨hY,hZ,gA,gB⟩:=bu
 repeat' (first
 |simp only[go_sem,hY,hZ,gA,gB]
 |(with_reducible refine CU (hg _) ?_)
 |(with_reducible first|refine bq fun hc=>?_|refine br fun hc=>?_|refine bt (fun hc=>?_) fun hc=>?_)<;>(try simp only[hc,bs,↓reduceIte]at h)<;>try simp only[hc]
 |(with_reducible refine aB hQ ?_;exact eo))
 refine cq 2 0 (bn.ind (ι:=List Pc×Nat×Nat) (fun i=>p.procs.drop i.2.1=i.1∧Pc.dA i.2.2 i.1=R∧i.2.2≤200) (fun i=>i.1.length)
  (fun i=> [(1, .ptr 0 0),(3, .ptr 1 0),(27, .slice .shared 5 (p.procs.map cH)),(28, .int .i64 (p.procs.length:Int)),(29, .int .i64 (i.2.1:Int))]) (fun i=>⟨[bY p,[.int .i64 (i.2.2:Int)]],[]⟩) ?_ (p.procs,0,0) ⟨rfl,h,Nat.zero_le _⟩)
 rintro⟨rest,k,n⟩ ⟨h1,h,hn⟩ IH
 dsimp only at h1 h hn
 cases rest with
 |nil=>
  have hY:=drop_nil h1
  simp only[Pc.dA]at h
  repeat' (first
 |simp only[go_sem,hY,hZ,gA,gB]
 |(with_reducible first|refine bq fun hc=>?_|refine br fun hc=>?_|refine bt (fun hc=>?_) fun hc=>?_)<;>(try simp only[hc,bs,↓reduceIte]at h)<;>try simp only[hc]
 |(with_reducible refine aB hQ ?_;exact eo))
 |cons f rest=>
  obtain⟨hZ,g2,hY,g4⟩:=drop_cons h1
  have cd:k<4611686018427387904:=by omega
  have iW:=List.mem_of_getElem? hZ
  have yF:=Pc.bJ iW
  simp only[Pc.size]at yF
  obtain⟨wo,hfv,hff,hfp⟩:=Mu f iW
  have tM:=De f.name wo
  have hv:=fun s=>Bu (by omega) hfv s
  have he:=fun s=>Bu (by omega) hff s
  have hb:=fun s' o ho=>(ach _ f.body (Nat.le_refl _) (by omega) (Qo f iW) 1 n (by omega) (by omega) hn).lL (s:=s') (o:=o) (by simp[D.bN,D.ok,mZ,Tag.ok]) rfl rfl rfl ho
  have hle:=Ik (nest:=1) (l:=f.body) hn
  simp only[Pc.dA]at h
  repeat' (first
 |simp only[go_sem,hY,hZ,gA,gB]
 |(with_reducible refine CU (tM _) ?_)
 |(with_reducible refine CU (hv _) ?_)
 |(with_reducible refine CU (he _) ?_)
 |(with_reducible first|refine bq fun hc=>?_|refine br fun hc=>?_|refine bt (fun hc=>?_) fun hc=>?_)<;>(try simp only[hc,bs,↓reduceIte]at h)<;>try simp only[hc]
 |(with_reducible refine aB hQ ?_;exact eo)
 | (cases h;done))
  refine cq 3 0 (bn.ind (ι:=List Pm×Nat) (fun i=>f.params.drop i.2=i.1∧(if !(Pm.e7 i.1)then false else if !(Sm.gF 1 n f.body).1 then false else Pc.dA (Sm.gF 1 n f.body).2 rest)=R) (fun i=>i.1.length)
   (fun i=> [(1, .ptr 0 0),(3, .ptr 1 0),(5, .ptr 2 0),(27, .slice .shared 5 (p.procs.map cH)),(28, .int .i64 (p.procs.length:Int)),(29, .int .i64 (k:Int)),(62, .slice .shared 2 (f.params.map fC)),(63, .int .i64 (f.params.length:Int)),(64, .int .i64 (i.2:Int))]) (fun i=>⟨[bY p,[.int .i64 (n:Int)],cH f],[]⟩) ?_ (f.params,0) ⟨rfl,h⟩)
  rintro⟨Bv,j⟩ ⟨j1,h⟩ vo
  dsimp only at j1 h
  cases Bv with
  |nil=>
   have hY:=drop_nil j1
   simp only[Pm.e7,Bool.not_true,Bool.false_eq_true,↓reduceIte]at h
   repeat' (first
 |simp only[go_sem,hY,hZ,gA,gB]
 |(with_reducible refine CU (hb _ _ rfl) ?_)
 |(with_reducible first|refine bq fun hc=>?_|refine br fun hc=>?_|refine bt (fun hc=>?_) fun hc=>?_)<;>(try simp only[hc,bs,↓reduceIte]at h)<;>try simp only[hc]
 |(with_reducible refine aB hQ ?_;exact eo)
 | (cases h;done))
   refine eQ 2 0 ?_ ?_ (IH (rest,k+1,(Sm.gF 1 n f.body).2) ⟨g2,h,hle.2 (by assumption)⟩ (Nat.lt_succ_self _))
   ·(simp only[go_sem,hY,hZ,gA,gB,aM cd];try exact bQ)
   ·(simp only[go_sem,hY,hZ,gA,gB,aM cd];try exact bQ)
  |cons a Bv=>
   obtain⟨hZ,b2,hY,b4⟩:=drop_cons j1
   have Jc:j<4611686018427387904:=by omega
   have ha:=De a.name (hfp a (List.mem_of_getElem? hZ))
   simp only[Pm.e7]at h
   repeat' (first
 |simp only[go_sem,hY,hZ,gA,gB]
 |(with_reducible refine CU (ha _) ?_)
 |(with_reducible first|refine bq fun hc=>?_|refine br fun hc=>?_|refine bt (fun hc=>?_) fun hc=>?_)<;>(try simp only[hc,bs,↓reduceIte]at h)<;>try simp only[hc]
 |(with_reducible refine aB hQ ?_;exact eo)
 | (cases h;done))
   refine eQ 3 0 ?_ ?_ (vo (Bv,j+1) ⟨b2,h⟩ (Nat.lt_succ_self _))
   ·(simp only[go_sem,hY,hZ,gA,gB,aM Jc];try exact bQ)
   ·(simp only[go_sem,hY,hZ,gA,gB,aM Jc];try exact bQ)
theorem gG {s:ay} (h:isName s=true):s.length≤8:=by
 cases s with
 |nil=>simp
 | cons c r=>
  simp only[isName]at h
  split at h
  ·cases h
  ·rename_i hc
   simp only[Bool.or_eq_true,decide_eq_true_eq,not_or]at hc
   simp only[List.length_cons];omega
theorem jB {t:ay} : ∀ {l:List ay},dn l=true→t∈l→isName t=true
 | s::l,h,m=>by
  simp only[dn]at h
  cases hs:isName s
  ·simp[hs]at h
  ·simp [hs]at h
   rcases List.mem_cons.1 m with rfl|m
   ·exact hs
   ·exact jB h m
theorem Bw {a:Ar} : ∀ {l:List Ar},Ar.e7 l=true→a∈l→a.may=true
 | s::l,h,m=>by
  simp only[Ar.e7]at h
  cases hs:s.may
  ·simp[hs]at h
  ·simp [hs]at h
   rcases List.mem_cons.1 m with rfl|m
   ·exact hs
   ·exact Bw h m
theorem yG {a:Pm} : ∀ {l:List Pm},Pm.e7 l=true→a∈l→isName a.name=true
 | s::l,h,m=>by
  simp only[Pm.e7]at h
  cases hs:isName s.name
  ·simp[hs]at h
  ·simp [hs]at h
   rcases List.mem_cons.1 m with rfl|m
   ·exact hs
   ·exact yG h m
mutual
theorem GN : ∀ x:Ex,x.form=true→x.texts
 | ⟨op,n,name,kids⟩,h=>by
  simp only[Ex.form]at h
  split at h
  ·cases h
  ·rename_i hc
   refine⟨?_,EE kids h⟩
   simp only[Bool.or_eq_true,Bool.and_eq_true,Bool.not_eq_true',not_or,not_and,Bool.not_eq_false]at hc
   cases hn:(name == [])
   ·have:=gG (hc.2 hn);omega
   ·simp at hn;subst hn;simp
theorem EE : ∀ l:List Ex,Ex.oc l=true→Ex.xN l
 | [],_=>trivial
 | x::l,h=>by
  simp only[Ex.oc]at h
  cases hx:x.form
  ·simp[hx]at h
  ·simp [hx]at h
   exact⟨GN x hx,EE l h⟩
end
theorem Jd {x:Ex} (h:x.may=true):x.texts:=by
 unfold Ex.may at h
 simp only[Bool.and_eq_true]at h
 exact GN x h.2
theorem GO {x:Ex} (h:x.none=true):x.texts:=by
 obtain⟨op,n,name,kids⟩:=x
 simp[Ex.none]at h
 obtain⟨⟨_,h1⟩,h2⟩:=h
 subst h1 h2
 exact⟨by simp,trivial⟩
mutual
theorem UZ {deep aN:Int} {aL:Bool} {out:List It} {i:It} : ∀ s:Sm,i∈iF deep aN aL out s→i∈out∨i.s.size≤s.size
 | ⟨id,kind,labels,name,proc,x,has,args,aS,e⟩,h=>by
  simp only[iF]at h
  have key:i∈out++ [(⟨⟨id,kind,labels,name,proc,x,has,args,aS,e⟩,deep,aN,aL⟩:It)]→i∈out∨i.s.size≤(⟨id,kind,labels,name,proc,x,has,args,aS,e⟩:Sm).size:=by
   intro h
   rcases List.mem_append.1 h with h|h
   ·exact .inl h
   ·simp at h;subst h;exact .inr (Nat.le_refl _)
  split at h
  ·rcases vq e h with h | h
   ·rcases vq aS h with h | h
    ·exact key h
    ·right;simp only[Sm.size];omega
   ·right;simp only[Sm.size];omega
  ·exact key h
theorem vq {deep aN:Int} {aL:Bool} {out:List It} {i:It} : ∀ l:List Sm,i∈dW deep aN aL out l→i∈out∨i.s.size<Sm.aT l
 | [],h=>by simp only[dW]at h;exact .inl h
 | s::l,h=>by
  simp only[dW]at h
  split at h
  ·rcases vq l h with h | h
   ·rcases UZ s h with h | h
    ·exact .inl h
    ·right;simp only[Sm.aT];omega
   ·right;simp only[Sm.aT];omega
  ·exact .inl h
end
theorem Mv {i:It} : ∀ (l:List Pc) (out:List It),i∈allM out l→i∈out∨i.s.size<Pc.aT l
 | [],out,h=>by simp only[allM]at h;exact .inl h
 | f::l,out,h=>by
  have key:i∈out++f.flat→i∈out∨i.s.size<Pc.aT (f::l):=by
   intro h
   rcases List.mem_append.1 h with h|h
   ·exact .inl h
   ·rcases vq _ h with h | h
    ·simp at h
    ·right;simp only[Pc.aT,Pc.size];omega
  simp only[allM]at h
  split at h
  ·exact key h
  ·rcases Mv l _ h with h | h
   ·exact key h
   ·right;simp only[Pc.aT];omega
theorem GQ {i:It} : ∀ (l:List It) (n:Nat),It.e7 n l=true→i∈l→i.s.one=true
 | s::l,n,h,m=>by
  simp only[It.e7]at h
  split at h
  ·cases h
  ·rename_i hc
   simp only[Bool.or_eq_true,Bool.not_eq_true',not_or,Bool.not_eq_false]at hc
   rcases List.mem_cons.1 m with rfl|m
   ·exact hc.2
   ·exact GQ l (n+1) h m
theorem Mw {s:Sm} (h:s.one=true) (hs:s.size<4611686018427387000):s.kJ:=by
 unfold Sm.one at h
 split at h
 ·cases h
 split at h
 ·cases h
 split at h
 ·cases h
 split at h
 ·cases h
 rename_i c1 c2 c3 c4
 simp only[Bool.or_eq_true,Bool.and_eq_true,Bool.not_eq_true',not_or,not_and,Bool.not_eq_false,decide_eq_true_eq]at c1 c2 c3 c4
 obtain⟨⟨⟨⟨⟨_,_⟩,at3⟩,cx⟩,cn⟩,_⟩:=c1
 obtain⟨c21,c22⟩:=c2
 obtain⟨⟨c31,c32⟩,c33⟩:=c3
 have nm : ∀ {t:ay},isName t=true→t.length<4611686018427387904:=fun h=>by have:=gG h;omega
 have ew:1+s.labels.length+s.x.size+Ar.aT s.args≤s.size:=by cases s;simp only[Sm.size];omega
 have ry:=Ar.cu s.args
 refine⟨fun t ht=>nm (jB at3 ht),by omega, ?_, ?_,by omega, ?_,by omega,fun a ha=>?_⟩
 ·cases hn:s.hasName
  ·cases he:(s.name == [])
   ·exact nm (c22 ⟨hn,he⟩).2
   ·simp at he;rw[he];simp
  ·exact nm (c21 hn)
 ·cases zW:s.kO
  ·rw [zW]at c31
   have:s.proc = []:=by simpa using c31
   rw[this];simp
  ·exact nm (c32 zW)
 ·cases hx:s.iZ
  ·exact GO (cn hx)
  ·exact Jd (cx hx)
 ·have hm:=Bw c4 ha
  have hsa:=Ar.bJ ha
  unfold Ar.may at hm
  split at hm
  ·simp only [Bool.and_eq_true]at hm
   exact⟨by omega,GO hm.2,nm hm.1⟩
  ·simp only [Bool.and_eq_true,beq_iff_eq]at hm
   exact⟨by omega,Jd hm.2,by rw[hm.1];simp⟩
theorem Je {f:Pc} : ∀ {l:List Pc},Pc.nI l=true→f∈l→isName f.name=true∧dn f.vars=true∧dn f.fin=true∧Pm.e7 f.params=true
 |s::l,h,m=>by
  simp only[Pc.nI]at h
  split at h
  ·cases h
  split at h
  ·cases h
  rename_i c1 c2
  simp only[Bool.or_eq_true,Bool.not_eq_true',not_or,Bool.not_eq_false]at c1 c2
  rcases List.mem_cons.1 m with rfl|m
  ·exact⟨c1.1.1.1.1,c1.1.2,c1.2,c2⟩
  ·exact Je h m
theorem Yo {p:Pg} (h:p.may=true) (hs:p.size<4611686018427387000):p.kJ:=by
 unfold Pg.may at h
 split at h
 ·cases h
 split at h
 ·cases h
 split at h
 ·cases h
 rename_i c1 c2 c3
 simp only[Bool.or_eq_true,Bool.not_eq_true',not_or,Bool.not_eq_false]at c1 c2
 have nm : ∀ {t:ay},isName t=true→t.length<4611686018427387904:=fun h=>by have:=gG h;omega
 refine⟨hs,fun t ht=>nm (jB c1.2 ht),fun f hf=>?_,fun i hi=>?_⟩
 ·obtain⟨a,b,c,d⟩:=Je c2 hf
  exact⟨nm a,fun t ht=>nm (jB b ht),fun t ht=>nm (jB c ht),fun t ht=>nm (yG d ht)⟩
 ·refine Mw (GQ _ _ h hi) ?_
  rcases Mv _ _ hi with h1|h1
  ·simp at h1
  ·simp only[Pg.size]at hs;omega
theorem Jf {t:ay} (h:isName t=true):t≠ []:=by rintro rfl;cases h
theorem Yp (op n:Int) (name:ay) (kids:List Ex):Ex.form ⟨op,n,name,kids⟩=true↔
 eI op=(kids.length:Int)∧(op=1∨n=0)∧0≤n∧(op=2↔name≠ [])∧(name = []∨isName name=true)∧Ex.oc kids=true:=by
 simp only[Ex.form]
 split
 ·rename_i h
  simp only[Bool.or_eq_true,Bool.and_eq_true,bne_iff_ne,ne_eq,decide_eq_true_eq,Bool.not_eq_true']at h
  refine⟨fun h=>(Bool.false_ne_true h).elim,fun⟨h1,h2,h3,h4,h5,_⟩=>?_⟩
  exfalso
  rcases h with (((h|h)|h)|h)|h
  ·exact h h1
  ·rcases h2 with h2 | h2
   ·exact h.1 h2
   ·exact h.2 h2
  ·omega
  ·by_cases h2:op=2<;>cases name<;>simp_all
  ·rcases h5 with h5 | h5
   ·subst h5;simp at h
   ·rw[h5]at h;simp at h
 ·rename_i h
  simp only[Bool.or_eq_true,Bool.and_eq_true,bne_iff_ne,ne_eq,decide_eq_true_eq,Bool.not_eq_true',not_or,not_and,Decidable.not_not,Bool.not_eq_false]at h
  obtain⟨⟨⟨⟨h1,h2⟩,h3⟩,h4⟩,h5⟩:=h
  refine⟨fun h=>⟨h1, ?_,by omega, ?_, ?_,h⟩,fun h=>h.2.2.2.2.2⟩
  ·by_cases h:op=1
   ·exact .inl h
   ·exact .inr (h2 h)
  ·by_cases h2:op=2<;>cases name<;>simp_all
  ·cases name with
   |nil=>exact .inl rfl
   |cons c r=>exact .inr (h5 rfl)
theorem afH (op n:Int) (name:ay) (kids:List Ex) (k:Int):Ex.dp k ⟨op,n,name,kids⟩=true↔
 1≤k∧(kids.length:Int)=eI op∧(if op=1 then 0≤n∧name = []else if op=2 then n=0∧isName name=true else n=0∧name = []∧Ex.GD (k - 1) kids=true):=by
 simp only[Ex.dp]
 split
 ·rename_i h
  simp only[Bool.or_eq_true,decide_eq_true_eq,bne_iff_ne,ne_eq]at h
  refine⟨fun h=>(Bool.false_ne_true h).elim,fun⟨h1,h2,_⟩=>?_⟩
  rcases h with h|h
  ·omega
  ·exact(h h2).elim
 rename_i h
 simp only[Bool.or_eq_true,decide_eq_true_eq,bne_iff_ne,ne_eq,not_or,Decidable.not_not]at h
 have h1:1≤k:=by omega
 simp only[h1,h.2,true_and]
 by_cases o1:op=1
 ·subst o1
  cases name<;>simp
 ·have o1' : ¬ (op==1)=true:=by simpa using o1
  rw[if_neg o1',if_neg o1]
  by_cases o2:op=2
  ·subst o2;simp
  ·have o2' : ¬ (op==2)=true:=by simpa using o2
   rw[if_neg o2',if_neg o2]
   by_cases hn:n=0
   ·subst hn
    cases name<;>simp
   ·simp[hn]
mutual
theorem aaO : ∀ (x:Ex) (k:Int),0≤k→(x.dp k=true↔(x.depth:Int)≤k∧x.form=true)
 | ⟨op,n,name,kids⟩,k,hk=>by
  rw[afH,Yp]
  have hd:Ex.depth ⟨op,n,name,kids⟩=Ex.iC kids+1:=by simp only[Ex.depth]
  rw[hd]
  by_cases h1:1≤k
  ·have ih:=U1 kids (k - 1) (by omega)
   by_cases o1:op=1
   ·subst o1
    have ha:eI 1=0:=rfl
    rw[ha,if_pos rfl]
    constructor
    ·rintro⟨_,h2,h3,h4⟩
     have:kids = []:=List.eq_nil_of_length_eq_zero (by omega)
     subst this;subst h4
     simp[Ex.iC,Ex.oc,h3];omega
    ·rintro⟨h2,h3,_,h4,h5,_⟩
     refine⟨h1,h3.symm,h4, ?_⟩
     cases name
     ·rfl
     ·simp at h5
   ·rw [if_neg o1]
    by_cases o2:op=2
    ·subst o2
     have ha:eI 2=0:=rfl
     rw[ha,if_pos rfl]
     constructor
     ·rintro⟨_,h2,h3,h4⟩
      have:kids = []:=List.eq_nil_of_length_eq_zero (by omega)
      subst this;subst h3
      have:=Jf h4
      simp[Ex.iC,Ex.oc,h4,this];omega
     ·rintro⟨h2,h3,h4,_,h5,h6,_⟩
      refine⟨h1,h3.symm,h4.resolve_left o1, ?_⟩
      exact h6.resolve_left (h5.1 rfl)
    ·rw [if_neg o2,ih]
     constructor
     ·rintro⟨_,h2,h3,h4,h5,h6⟩
      subst h3;subst h4
      exact⟨by omega,h2.symm, .inr rfl,Int.le_refl _,by simp[o2], .inl rfl,h6⟩
     ·rintro⟨h2,h3,h4,_,h5,h6,h7⟩
      refine⟨h1,h3.symm,h4.resolve_left o1, ?_,by omega,h7⟩
      exact Decidable.byContradiction fun h=>o2 (h5.2 h)
  ·constructor
   ·rintro⟨h,_⟩;exact(h1 h).elim
   ·rintro⟨h,_⟩;omega
theorem U1 : ∀ (l:List Ex) (k:Int),0≤k→(Ex.GD k l=true↔(Ex.iC l:Int)≤k∧Ex.oc l=true)
 | [],k,hk=>by simp[Ex.GD,Ex.iC,Ex.oc,hk]
 | x::l,k,hk=>by
  have h1:=aaO x k hk
  have h2:=U1 l k hk
  have hd:Ex.iC (x::l)=max x.depth (Ex.iC l):=by simp only[Ex.iC]
  rw[hd]
  simp only[Ex.GD,Ex.oc]
  cases hx:Ex.dp k x
  ·simp only [Bool.not_false, ↓reduceIte,Bool.false_eq_true,false_iff,not_and]
   intro h3
   have : ¬ ((x.depth:Int)≤k∧x.form=true):=by rw[← h1,hx];simp
   have hf:x.form=false:=by
    cases hf:x.form
    ·rfl
    ·exact(this ⟨by omega,hf⟩).elim
   simp[hf]
  ·have:=h1.1 hx
   simp only[Bool.not_true,Bool.false_eq_true,↓reduceIte,this.2,h2]
   have h3:=this.1
   refine and_congr_left fun _=>?_
   omega
end
theorem U2 (x:Ex):x.dp 20=x.may:=by
 rw[Bool.eq_iff_iff,aaO x 20 (by omega)]
 unfold Ex.may
 simp only[Bool.and_eq_true,decide_eq_true_eq]
 refine and_congr_left fun _=>?_
 omega
theorem Jg (x:Ex) (b:Bool):xQ x b=if b then x.may else x.none:=by
 unfold xQ
 rw[U2]
 cases b<;>simp
theorem Jh (t:ay) (b:Bool):tf t b=if b then isName t else t == []:=by
 unfold tf
 cases b<;>simp
theorem EF : ∀ l:List Ar,qR l=Ar.e7 l
 | []=>rfl
 |a::l=>by
  simp only[qR,Ar.e7,Ar.may,Jg,Jh,EF l]
  grind
theorem adW {α:Type} (l:List α):((l.length:Int)==0) = !(decide ((l.length:Int) > 0)):=by
 cases l with
 |nil=>rfl
 |cons a l=>
  have h1:(((a::l).length:Int)==0)=false:=by simp only[List.length_cons,beq_eq_false_iff_ne];omega
  have h2:decide (((a::l).length:Int) > 0)=true:=by simp only[List.length_cons,decide_eq_true_eq];omega
  rw[h1,h2];rfl
theorem GR (s:Sm):s.one=(dn s.labels && s.fields):=by
 have hk:s.kind=1∨s.kind=2∨s.kind=3∨s.kind=4∨s.kind=5∨s.kind=6∨s.kind=7∨s.kind=8∨s.kind=9∨s.kind=10∨s.kind<1∨s.kind > 10:=by omega
 unfold Sm.one Sm.fields Sm.flags Sm.iZ Sm.hasName Sm.kO
 have p1:isName [] = false:=rfl
 rcases hk with h|h|h|h|h|h|h|h|h|h|h|h
 all_goals
  simp only[h,adW,EF,Jg,Jh,Sm.KU,Sm.KT]
  grind
mutual
def Ex.n6 (out:List ay):Ex→List ay
 |⟨op,_,name,kids⟩=>Ex.nh (if op==2 && !(fM out name)then out++ [name]else out) kids
def Ex.nh (out:List ay):List Ex→List ay
 | []=>out
 |x::l=>Ex.nh (Ex.n6 out x) l
end
def Ex.names (x:Ex):List ay:=if x.may then x.n6 []else []
mutual
theorem uh (out:List ay) : ∀ x:Ex,(Ex.n6 out x).length≤out.length+x.size
 |⟨op,n,name,kids⟩=>by
  simp only[Ex.n6,Ex.size]
  have h:=Ji (if op==2 && !(fM out name)then out++ [name]else out) kids
  refine Nat.le_trans h ?_
  split<;>simp<;>omega
theorem Ji (out:List ay) : ∀ l:List Ex,(Ex.nh out l).length≤out.length+Ex.aT l
 | []=>by simp[Ex.nh,Ex.aT]
 |x::l=>by
  simp only[Ex.nh,Ex.aT]
  have h1:=uh out x
  have h2:=Ji (Ex.n6 out x) l
  omega
end
def DZ (out:List ay) (x:ay):List ay:=if fM out x then out else out++ [x]
def aiT (x:ay):List ay→Bool
 | []=>false
 |s::l=>if s==x then true else aiT x l
abbrev U3 (N:Nat):Prop:=∀ (x:Ex),x.size≤N→∀ out:List ay,out.length+x.size≤1000000000→∀ {s:St} {t:Nat},s.aD[t]? = some (some out.length)→
 aA Tryz.prog jH [.agg (bx x), .slice (.tok t) 1 (out.map encStr)] s (.slice (.tok t) 1 ((x.n6 out).map encStr)) ⟨s.az,s.aD.set t (some (x.n6 out).length)⟩
theorem afI {N:Nat} (ih:U3 N) {op m:Int} {name:ay} {kids:List Ex} (h:Ex.size ⟨op,m,name,kids⟩≤N+1) {out:List ay} (ho:out.length+Ex.size ⟨op,m,name,kids⟩≤1000000000) :
 aA Tryz.prog jH [.agg (bx ⟨op,m,name,kids⟩), .slice (.tok 0) 1 (out.map encStr)] ⟨[],[some out.length]⟩ (.slice (.tok 0) 1 ((Ex.n6 out ⟨op,m,name,kids⟩).map encStr)) ⟨[],[some (Ex.n6 out ⟨op,m,name,kids⟩).length]⟩:=by
 obtain⟨R,hG⟩ : ∃ R,Ex.n6 out ⟨op,m,name,kids⟩=R:=⟨_,rfl⟩
 rw[hG]
 simp only[Ex.n6]at hG
 simp only[Ex.size]at h ho
 have hlen:kids.length<1000000000:=by have:=Ex.cu kids;omega
 have hk : ∀ y∈kids,∀ out:List ay,out.length+y.size≤1000000000→∀ {s:St} {t:Nat},s.aD[t]? = some (some out.length)→
  aA Tryz.prog jH [.agg (bx y), .slice (.tok t) 1 (out.map encStr)] s (.slice (.tok t) 1 ((y.n6 out).map encStr)) ⟨s.az,s.aD.set t (some (y.n6 out).length)⟩:=fun y hy out ho=>
  ih y (by have:=Ex.bJ hy;omega) out ho
 refine aA.go s9 rfl fun B Q hB hQ=>?_
 have⟨hY,hZ,gA,gB⟩:=bu
 have gA:(out.length+1)*17≤aF:=by unfold aF;omega
 rcases Bool.eq_false_or_eq_true (op==2)with b1|b1
 ·rcases Bool.eq_false_or_eq_true (fM out name)with b2 | b2
  ·simp only [b1,b2,Bool.not_true,Bool.and_false,Bool.false_eq_true,if_false]at hG
   repeat' (first
 |simp only[go_sem,hY,hZ,gA,gB,b1,b2]
 |(with_reducible refine CU (kr (l:=out) (by omega) name _ _) ?_)
 | (with_reducible refine aB hQ ?_;exact aU))
   refine cq 1 1 (bn.ind (ι:=List Ex×Nat×List ay×Nat) (fun i=>kids.drop i.2.1=i.1∧Ex.nh i.2.2.1 i.1=R∧i.2.2.1.length+Ex.aT i.1≤1000000000∧i.2.2.2=i.2.2.1.length) (fun i=>i.1.length)
    (fun i=> [(1, .slice (.tok 0) 1 (i.2.2.1.map encStr)),(2, .ptr 0 0),(23, .slice .shared 4 (kids.map bx)),(24, .int .i64 (kids.length:Int)),(25, .int .i64 (i.2.1:Int))]) (fun i=>⟨[bx ⟨op,m,name,kids⟩],[some i.2.2.2]⟩) ?_ (kids,0,out,out.length) ⟨rfl,hG,by simp;omega,by simp⟩)
   rintro⟨rest,k,cU,n'⟩ ⟨h1,h2,h3,h4⟩ IH
   dsimp only at h1 h2 h3 h4
   subst h4
   cases rest with
   |nil=>
    have hY:=drop_nil h1
    simp only[Ex.nh]at h2
    subst h2
    repeat' (first
 |simp only[go_sem,hY,hZ,gA,gB]
 | (with_reducible refine aB hQ ?_;exact aU))
   |cons y rest=>
    obtain⟨hZ,g2,hY,g4⟩:=drop_cons h1
    have cd:k<4611686018427387904:=by omega
    simp only[Ex.nh]at h2
    simp only[Ex.aT]at h3
    have hy:=fun {s:St} {t:Nat} (ht:s.aD[t]? = some (some cU.length))=>hk y (List.mem_of_getElem? hZ) cU (by omega) ht
    have hl:=uh cU y
    repeat' (first
 |simp only[go_sem,hY,hZ,gA,gB]
 |(with_reducible refine CU (hy (by with_unfolding_all rfl)) ?_)
 | (with_reducible refine aB hQ ?_;exact aU))
    refine eQ 1 1 ?_ ?_ (IH (rest,k+1,_,_) ⟨g2,h2,by dsimp only;omega,rfl⟩ (Nat.lt_succ_self _))
    ·(simp only[go_sem,hY,hZ,gA,gB,aM cd];try exact bQ)
    ·(simp only[go_sem,hY,hZ,gA,gB,aM cd];try exact bQ)
  ·simp only [b1,b2,Bool.not_false,Bool.and_true,if_true]at hG
   repeat' (first
 |simp only[go_sem,hY,hZ,gA,gB,b1,b2]
 |(with_reducible refine CU (kr (l:=out) (by omega) name _ _) ?_)
 | (with_reducible refine aB hQ ?_;exact aU))
   refine eQ 1 1 ?_ ?_ (bn.ind (ι:=List Ex×Nat×List ay×Nat) (fun i=>kids.drop i.2.1=i.1∧Ex.nh i.2.2.1 i.1=R∧i.2.2.1.length+Ex.aT i.1≤1000000000∧i.2.2.2=i.2.2.1.length) (fun i=>i.1.length)
    (fun i=> [(1, .slice (.tok 0) 1 (i.2.2.1.map encStr)),(2, .ptr 0 0),(23, .slice .shared 4 (kids.map bx)),(24, .int .i64 (kids.length:Int)),(25, .int .i64 (i.2.1:Int))]) (fun i=>⟨[bx ⟨op,m,name,kids⟩],[some i.2.2.2]⟩) ?_ (kids,0,(out++ [name]),(out.length+1)) ⟨rfl,hG,by simp;omega,by simp⟩)
   ·(simp only[go_sem,hY,hZ,gA,gB,List.map_append,List.map_cons,List.map_nil,List.length_append,List.length_cons,List.length_nil,encStr];try exact bQ)
   ·(simp only[go_sem,hY,hZ,gA,gB,List.map_append,List.map_cons,List.map_nil,List.length_append,List.length_cons,List.length_nil,encStr];try exact bQ)
   rintro⟨rest,k,cU,n'⟩ ⟨h1,h2,h3,h4⟩ IH
   dsimp only at h1 h2 h3 h4
   subst h4
   cases rest with
   |nil=>
    have hY:=drop_nil h1
    simp only[Ex.nh]at h2
    subst h2
    repeat' (first
 |simp only[go_sem,hY,hZ,gA,gB]
 | (with_reducible refine aB hQ ?_;exact aU))
   |cons y rest=>
    obtain⟨hZ,g2,hY,g4⟩:=drop_cons h1
    have cd:k<4611686018427387904:=by omega
    simp only[Ex.nh]at h2
    simp only[Ex.aT]at h3
    have hy:=fun {s:St} {t:Nat} (ht:s.aD[t]? = some (some cU.length))=>hk y (List.mem_of_getElem? hZ) cU (by omega) ht
    have hl:=uh cU y
    repeat' (first
 |simp only[go_sem,hY,hZ,gA,gB]
 |(with_reducible refine CU (hy (by with_unfolding_all rfl)) ?_)
 | (with_reducible refine aB hQ ?_;exact aU))
    refine eQ 1 1 ?_ ?_ (IH (rest,k+1,_,_) ⟨g2,h2,by dsimp only;omega,rfl⟩ (Nat.lt_succ_self _))
    ·(simp only[go_sem,hY,hZ,gA,gB,aM cd];try exact bQ)
    ·(simp only[go_sem,hY,hZ,gA,gB,aM cd];try exact bQ)
 ·simp only [b1,Bool.false_and,Bool.false_eq_true,if_false]at hG
  repeat' (first
 |simp only[go_sem,hY,hZ,gA,gB,b1]
 | (with_reducible refine aB hQ ?_;exact aU))
  refine cq 1 1 (bn.ind (ι:=List Ex×Nat×List ay×Nat) (fun i=>kids.drop i.2.1=i.1∧Ex.nh i.2.2.1 i.1=R∧i.2.2.1.length+Ex.aT i.1≤1000000000∧i.2.2.2=i.2.2.1.length) (fun i=>i.1.length)
   (fun i=> [(1, .slice (.tok 0) 1 (i.2.2.1.map encStr)),(2, .ptr 0 0),(23, .slice .shared 4 (kids.map bx)),(24, .int .i64 (kids.length:Int)),(25, .int .i64 (i.2.1:Int))]) (fun i=>⟨[bx ⟨op,m,name,kids⟩],[some i.2.2.2]⟩) ?_ (kids,0,out,out.length) ⟨rfl,hG,by simp;omega,by simp⟩)
  rintro⟨rest,k,cU,n'⟩ ⟨h1,h2,h3,h4⟩ IH
  dsimp only at h1 h2 h3 h4
  subst h4
  cases rest with
  |nil=>
   have hY:=drop_nil h1
   simp only[Ex.nh]at h2
   subst h2
   repeat' (first
 |simp only[go_sem,hY,hZ,gA,gB]
 | (with_reducible refine aB hQ ?_;exact aU))
  |cons y rest=>
   obtain⟨hZ,g2,hY,g4⟩:=drop_cons h1
   have cd:k<4611686018427387904:=by omega
   simp only[Ex.nh]at h2
   simp only[Ex.aT]at h3
   have hy:=fun {s:St} {t:Nat} (ht:s.aD[t]? = some (some cU.length))=>hk y (List.mem_of_getElem? hZ) cU (by omega) ht
   have hl:=uh cU y
   repeat' (first
 |simp only[go_sem,hY,hZ,gA,gB]
 |(with_reducible refine CU (hy (by with_unfolding_all rfl)) ?_)
 | (with_reducible refine aB hQ ?_;exact aU))
   refine eQ 1 1 ?_ ?_ (IH (rest,k+1,_,_) ⟨g2,h2,by dsimp only;omega,rfl⟩ (Nat.lt_succ_self _))
   ·(simp only[go_sem,hY,hZ,gA,gB,aM cd];try exact bQ)
   ·(simp only[go_sem,hY,hZ,gA,gB,aM cd];try exact bQ)
theorem Yq : ∀ N,U3 N:=by
 intro N
 induction N with
 |zero=>rintro⟨op,m,name,kids⟩ h;simp only[Ex.size]at h;omega
 |succ N ih=>
  rintro⟨op,m,name,kids⟩ h out ho s t ht
  exact(afI ih h ho).aee (pre:= [_]) (post:= []) (by simp only[D.bN,D.ok,gE];rfl) rfl (fw out) (fw _) ht
abbrev auM (N:Nat):Prop:=∀ (x:Ex),x.size≤N→∀ out:List ay,out.length+x.size≤1000000000→∀ {s:St} {t:Nat},s.aD[t]? = some (some out.length)→
 aA Tryz.prog On [.agg (bx x), .slice (.tok t) 1 (out.map encStr)] s (.slice (.tok t) 1 ((x.n6 out).map encStr)) ⟨s.az,s.aD.set t (some (x.n6 out).length)⟩
theorem U4 {op m:Int} {name:ay} {kids:List Ex} (h:Ex.form ⟨op,m,name,kids⟩=true) (h2:(op==2)=true):kids = []:=by
 have e:op=2:=by simpa using h2
 subst e
 simp only[Ex.form]at h
 split at h
 ·cases h
 ·rename_i hh
  simp only[Bool.or_eq_true,not_or,bne_iff_ne,ne_eq,Decidable.not_not]at hh
  have:=hh.1.1.1.1
  have e:eI 2=0:=rfl
  rw[e]at this
  exact List.length_eq_zero_iff.1 (by omega)
theorem Yr {op m:Int} {name:ay} {kids:List Ex} (hf:(op==2)=true→kids = []) (ho:Ex.size ⟨op,m,name,kids⟩≤1000000000) (s:St) :
 aA Tryz.prog jH [.agg (bx ⟨op,m,name,kids⟩), .slice .full 0 []] s (.slice .shared 1 ((Ex.n6 [] ⟨op,m,name,kids⟩).map encStr)) s:=by
 refine aA.pure ?_ (by simp only[D.bN,D.ok,gE];rfl) (by simp only[D.ok,Tag.ok,fw];rfl) s
 obtain⟨R,hG⟩ : ∃ R,Ex.n6 [] ⟨op,m,name,kids⟩=R:=⟨_,rfl⟩
 rw[hG]
 simp only[Ex.n6]at hG
 simp only[Ex.size]at ho
 have hlen:kids.length<1000000000:=by have:=Ex.cu kids;omega
 have hk : ∀ y∈kids,∀ out:List ay,out.length+y.size≤1000000000→∀ {s:St} {t:Nat},s.aD[t]? = some (some out.length)→
  aA Tryz.prog jH [.agg (bx y), .slice (.tok t) 1 (out.map encStr)] s (.slice (.tok t) 1 ((y.n6 out).map encStr)) ⟨s.az,s.aD.set t (some (y.n6 out).length)⟩:=fun y hy out ho=>
  Yq y.size y (Nat.le_refl _) out ho
 unfold S0
 rcases Bool.eq_false_or_eq_true (op==2)with b1|b1
 ·have hk0:=hf b1
  subst hk0
  have e:fM [] name=false:=rfl
  simp only[b1,e,Bool.not_false,Bool.and_true,if_true,Ex.nh,List.nil_append]at hG
  subst hG
  refine aA.go s9 rfl fun B Q hB hQ=>?_
  have⟨hY,hZ,gA,gB⟩:=bu
  have gA:17≤aF:=by unfold aF;omega
  repeat' (first
 |simp only[go_sem,hY,hZ,gA,gB,b1,List.map_nil,List.map_cons,List.length_nil,encStr,Int.natCast_zero,Int.lt_irrefl,decide_false]
 |(with_reducible refine CU (Mp name _ _ _) ?_)
 |(with_reducible refine bn.uH ?_)
 |(with_reducible refine aB hQ ?_;exact aU))
 ·simp only [b1,Bool.false_and,Bool.false_eq_true,if_false]at hG
  refine aA.go s9 rfl fun B Q hB hQ=>?_
  have⟨hY,hZ,gA,gB⟩:=bu
  repeat' (first
 |simp only[go_sem,hY,hZ,gA,gB,b1]
 | (with_reducible refine aB hQ ?_;exact aU))
  refine bn.oZ 1 1 rfl ?_
  simp only[go_sem,hY,hZ,gA,gB]
  refine cq 1 1 (bn.ind (ι:=List Ex×Nat×List ay×Nat) (fun i=>kids.drop i.2.1=i.1∧Ex.nh i.2.2.1 i.1=R∧i.2.2.1.length+Ex.aT i.1≤1000000000∧i.2.2.2=i.2.2.1.length) (fun i=>i.1.length)
   (fun i=> [(1, .slice (.tok 0) 1 (i.2.2.1.map encStr)),(2, .ptr 0 0),(23, .slice .shared 4 (kids.map bx)),(24, .int .i64 (kids.length:Int)),(25, .int .i64 (i.2.1:Int))]) (fun i=>⟨[bx ⟨op,m,name,kids⟩],[some i.2.2.2]⟩) ?_ (kids,0,[],0) ⟨rfl,hG,by simp;omega,by simp⟩)
  rintro⟨rest,k,cU,n'⟩ ⟨h1,h2,h3,h4⟩ IH
  dsimp only at h1 h2 h3 h4
  subst h4
  cases rest with
  |nil=>
   have hY:=drop_nil h1
   simp only[Ex.nh]at h2
   subst h2
   repeat' (first
 |simp only[go_sem,hY,hZ,gA,gB]
 | (with_reducible refine aB hQ ?_;exact aU))
  |cons y rest=>
   obtain⟨hZ,g2,hY,g4⟩:=drop_cons h1
   have cd:k<4611686018427387904:=by omega
   simp only[Ex.nh]at h2
   simp only[Ex.aT]at h3
   have hy:=fun {s:St} {t:Nat} (ht:s.aD[t]? = some (some cU.length))=>hk y (List.mem_of_getElem? hZ) cU (by omega) ht
   have hl:=uh cU y
   repeat' (first
 |simp only[go_sem,hY,hZ,gA,gB]
 |(with_reducible refine CU (hy (by with_unfolding_all rfl)) ?_)
 | (with_reducible refine aB hQ ?_;exact aU))
   refine eQ 1 1 ?_ ?_ (IH (rest,k+1,_,_) ⟨g2,h2,by dsimp only;omega,rfl⟩ (Nat.lt_succ_self _))
   ·(simp only[go_sem,hY,hZ,gA,gB,aM cd];try exact bQ)
   ·(simp only[go_sem,hY,hZ,gA,gB,aM cd];try exact bQ)
theorem oG {x:Ex} (hx:x.size≤1000000000) (ht:x.texts) (s:St):aA Tryz.prog s4 [.agg (bx x)] s (.slice .shared 1 (x.names.map encStr)) s:=by
 refine aA.pure ?_ (by simp only[D.bN,D.ok,gE];rfl) (by simp only[D.ok,Tag.ok,fw];rfl) s
 have hm:=fun s=>GF (x:=x) (by omega) ht s
 simp only[U2]at hm
 unfold Ex.names
 unfold S0
 cases hb:x.may
 ·simp only [hb]at hm
  simp only[Bool.false_eq_true,if_false,List.map_nil]
  refine aA.go Aq rfl fun B Q hB hQ=>?_
  have⟨hY,hZ,gA,gB⟩:=bu
  repeat' (first
 |simp only[go_sem,hY,hZ,gA,gB]
 |(with_reducible refine CU (hm _) ?_)
 |(with_reducible refine aB hQ ?_;exact aU))
 ·simp only [hb]at hm
  simp only[if_true]
  have hg : ∀ s,aA Tryz.prog jH [.agg (bx x), .slice .full 0 []] s (.slice .shared 1 ((x.n6 []).map encStr)) s:=by
   intro s
   obtain⟨op,m,name,kids⟩:=x
   exact Yr (fun h2=>U4 (by simp only[Ex.may,Bool.and_eq_true]at hb;exact hb.2) h2) hx s
  refine aA.go Aq rfl fun B Q hB hQ=>?_
  have⟨hY,hZ,gA,gB⟩:=bu
  repeat' (first
 |simp only[go_sem,hY,hZ,gA,gB]
 |(with_reducible refine CU (hm _) ?_)
 |(with_reducible refine CU (hg _) ?_)
 |(with_reducible refine aB hQ ?_;exact aU))
def Ar.said (out:List ay):List Ar→List ay
 | []=>out
 |a::l=>Ar.said ((if a.ref then out++ [a.name]else out)++a.x.names) l
def Sm.wL (v:Sm):List ay:=if v.kind != 10 && v.name != []then [v.name]else []
def Sm.said (v:Sm):List ay:=Ar.said (v.wL++v.x.names) v.args
theorem mr (x:Ex):x.names.length≤x.size:=by
 unfold Ex.names
 split
 ·simpa using uh [] x
 ·exact Nat.zero_le _
def Ar.xN:List Ar→Prop
 | []=>True
 |a::l=>a.x.texts∧Ar.xN l
def Sm.rI (v:Sm):Prop:=v.x.texts∧(∀ a∈v.args,a.x.texts)∧v.x.size+Ar.aT v.args<1000000
theorem lP {l nx:List ay} {n:Nat} (hn:n=l.length) (h:l.length+nx.length≤1000000000) {g:Tag} (o:List (List D)) :
 mL 1 16 (.slice (.tok 0) 1 (l.map encStr)) (.slice g 1 (nx.map encStr)) ⟨o,[some n]⟩=some (.slice (.tok 0) 1 ((l++nx).map encStr),⟨o,[some (l++nx).length]⟩):=by
 subst hn
 have:=LV (size:=1) (bytes:=16) (t:=0) (rows:=l.map encStr) (new:=nx.map encStr) (g:=g) (s:=⟨o,[some l.length]⟩) (by simp only[List.length_map];unfold aF;omega) (by simp)
 rw[this]
 simp
theorem Dg {v:Sm} (hv:v.rI) (s:St):aA Tryz.prog sX [.agg (bh v)] s (.slice .shared 1 (v.said.map encStr)) s:=by
 refine aA.pure ?_ (by simp only[D.bN,D.ok,np];rfl) (by simp only[D.ok,Tag.ok,fw];rfl) s
 obtain⟨ht1,Mx,ew⟩:=hv
 obtain⟨R,hG⟩ : ∃ R,v.said=R:=⟨_,rfl⟩
 rw[hG]
 simp only[Sm.said]at hG
 have hlen:v.args.length<1000000000:=by have:=Ar.cu v.args;omega
 have hx:=fun s=>oG (x:=v.x) (by omega) ht1 s
 have Ph:=mr v.x
 unfold S0
 refine aA.go H3 rfl fun B Q hB hQ=>?_
 have⟨hY,hZ,gA,gB⟩:=bu
 have gA:17≤aF:=by unfold aF;omega
 by_cases hb:(v.kind != 10 && v.name != [])=true
 ·simp only [Sm.wL,hb,if_true]at hG
  rw[Bool.and_eq_true]at hb
  obtain⟨b1,b2⟩:=hb
  have hO:=lP (l:= [v.name]) (nx:=v.x.names) (n:=1) rfl (by simp;omega) (g:= .shared)
  simp only[List.map_append,List.map_cons,List.map_nil,encStr]at hO
  have b3:(v.name == [])=false:=by simpa using b2
  repeat' (first
 |simp only[go_sem,hY,hZ,gA,gB,b1,b2,b3,hO]
 |(with_reducible refine CU (hx _) ?_)
 | (with_reducible refine aB hQ ?_;exact aU))
  refine eQ 1 1 ?_ ?_ (bn.ind (ι:=List Ar×Nat×List ay×Nat) (fun i=>v.args.drop i.2.1=i.1∧Ar.said i.2.2.1 i.1=R∧i.2.2.1.length+Ar.aT i.1≤2000000∧i.2.2.2=i.2.2.1.length) (fun i=>i.1.length)
   (fun i=> [(3, .slice (.tok 0) 1 (i.2.2.1.map encStr)),(1, .ptr 0 0),(25, .slice .shared 6 (v.args.map fb)),(26, .int .i64 (v.args.length:Int)),(27, .int .i64 (i.2.1:Int))]) (fun i=>⟨[bh v],[some i.2.2.2]⟩) ?_ (v.args,0,([v.name]++v.x.names),(v.x.names.length+1)) ⟨rfl,hG,by simp at Ph ⊢;omega,by simp⟩)
  ·(simp only[go_sem,hY,hZ,gA,gB,List.map_append,List.map_cons,List.map_nil,encStr];try exact bQ)
  ·(simp only[go_sem,hY,hZ,gA,gB,List.map_append,List.map_cons,List.map_nil,encStr];try exact bQ)
  rintro⟨rest,k,out,n'⟩ ⟨h1,h2,h3,h4⟩ IH
  dsimp only at h1 h2 h3 h4
  subst h4
  cases rest with
  |nil=>
   have hY:=drop_nil h1
   simp only[Ar.said]at h2
   subst h2
   repeat' (first
 |simp only[go_sem,hY,hZ,gA,gB]
 | (with_reducible refine aB hQ ?_;exact aU))
  | cons a rest=>
   obtain⟨hZ,g2,hY,g4⟩:=drop_cons h1
   have cd:k<4611686018427387904:=by omega
   simp only[Ar.said]at h2
   simp only[Ar.aT]at h3
   have yH:=fun s=>oG (x:=a.x) (by have:=Ar.bJ (List.mem_of_getElem? hZ);omega) (Mx a (List.mem_of_getElem? hZ)) s
   have hl:=mr a.x
   have gA:(out.length+1)*17≤aF:=by unfold aF;omega
   rcases Bool.eq_false_or_eq_true a.ref with b1|b1
   ·simp only [b1,if_true]at h2
    have hO:=lP (l:=out++ [a.name]) (nx:=a.x.names) (n:=out.length+1) (by simp) (by simp;omega) (g:= .shared)
    simp only[List.map_append,List.map_cons,List.map_nil,encStr]at hO
    repeat' (first
 |simp only[go_sem,hY,hZ,gA,gB,b1,hO]
 |(with_reducible refine CU (yH _) ?_)
 | (with_reducible refine aB hQ ?_;exact aU))
    refine eQ 1 1 ?_ ?_ (IH (rest,k+1,out++ [a.name]++a.x.names,_) ⟨g2,h2,by simp;omega,by simp<;>omega⟩ (Nat.lt_succ_self _))
    ·(simp only[go_sem,hY,hZ,gA,gB,aM cd,List.map_append,List.map_cons,List.map_nil,encStr];try exact bQ)
    ·(simp only[go_sem,hY,hZ,gA,gB,aM cd,List.map_append,List.map_cons,List.map_nil,encStr];try exact bQ)
   ·simp only [b1,Bool.false_eq_true,if_false]at h2
    have hO:=lP (l:=out) (nx:=a.x.names) rfl (by omega) (g:= .shared)
    repeat' (first
 |simp only[go_sem,hY,hZ,gA,gB,b1,hO]
 |(with_reducible refine CU (yH _) ?_)
 | (with_reducible refine aB hQ ?_;exact aU))
    refine eQ 1 1 ?_ ?_ (IH (rest,k+1,out++a.x.names,_) ⟨g2,h2,by simp;omega,by simp<;>omega⟩ (Nat.lt_succ_self _))
    ·(simp only[go_sem,hY,hZ,gA,gB,aM cd];try exact bQ)
    ·(simp only[go_sem,hY,hZ,gA,gB,aM cd];try exact bQ)
 ·simp only [Sm.wL,hb,Bool.false_eq_true,if_false,List.nil_append]at hG
  have tH:(v.kind != 10 && v.name != [])=false:=by simpa using hb
  obtain⟨nx,hnx⟩ : ∃ nx,nx=v.x.names:=⟨_,rfl⟩
  rw[← hnx]at hG Ph
  simp only[← hnx]at hx
  by_cases Lq:nx = []
  ·subst Lq
   simp only[List.map_nil]at hx
   have hO : ∀ o:List (List D),mL 1 16 (.slice .full 0 []) (.slice .shared 1 []) ⟨o,[]⟩=some (.slice .full 0 [],⟨o,[]⟩):=fun o=>by simp[mL,aF]
   have HB:(v.kind != 10)=false∨(v.kind != 10)=true∧(v.name != [])=false:=by
    cases h1:(v.kind != 10)
    ·exact .inl rfl
    ·rw[h1]at tH;exact .inr ⟨rfl,by simpa using tH⟩
   rcases HB with b1|⟨b1,b2⟩
   ·rcases Bool.eq_false_or_eq_true (v.name != [])with b2 | b2
    all_goals
     have b3:(v.name == []) = !(v.name != []):=by simp only[bne,Bool.not_not]
     rw[b2]at b3
     repeat' (first
 |simp only[go_sem,hY,hZ,gA,gB,b1,b2,b3,Bool.not_true,Bool.not_false,hO]
 |(with_reducible refine CU (hx _) ?_)
 | (with_reducible refine aB hQ ?_;simp only[cj,cr,dK,dL,go_sem,hY,hZ,gA,gB];repeat' (first|exact Ok.out|with_reducible refine kM ?_ ?_|(simp;done))))
    all_goals
     refine bn.oZ 3 1 rfl ?_
     simp only[go_sem,hY,hZ,gA,gB]
     refine cq 1 1 (bn.ind (ι:=List Ar×Nat×List ay×Nat) (fun i=>v.args.drop i.2.1=i.1∧Ar.said i.2.2.1 i.1=R∧i.2.2.1.length+Ar.aT i.1≤2000000∧i.2.2.2=i.2.2.1.length) (fun i=>i.1.length)
      (fun i=> [(3, .slice (.tok 0) 1 (i.2.2.1.map encStr)),(1, .ptr 0 0),(25, .slice .shared 6 (v.args.map fb)),(26, .int .i64 (v.args.length:Int)),(27, .int .i64 (i.2.1:Int))]) (fun i=>⟨[bh v],[some i.2.2.2]⟩) ?_ (v.args,0,[],0) ⟨rfl,hG,by simp at Ph ⊢;omega,by simp⟩)
     rintro⟨rest,k,out,n'⟩ ⟨h1,h2,h3,h4⟩ IH
     dsimp only at h1 h2 h3 h4
     subst h4
     cases rest with
     |nil=>
      have hY:=drop_nil h1
      simp only[Ar.said]at h2
      subst h2
      repeat' (first
 |simp only[go_sem,hY,hZ,gA,gB]
 |(with_reducible refine aB hQ ?_;exact aU))
     | cons a rest=>
      obtain⟨hZ,g2,hY,g4⟩:=drop_cons h1
      have cd:k<4611686018427387904:=by omega
      simp only[Ar.said]at h2
      simp only[Ar.aT]at h3
      have yH:=fun s=>oG (x:=a.x) (by have:=Ar.bJ (List.mem_of_getElem? hZ);omega) (Mx a (List.mem_of_getElem? hZ)) s
      have hl:=mr a.x
      have gA:(out.length+1)*17≤aF:=by unfold aF;omega
      rcases Bool.eq_false_or_eq_true a.ref with b1|b1
      ·simp only [b1,if_true]at h2
       have hO:=lP (l:=out++ [a.name]) (nx:=a.x.names) (n:=out.length+1) (by simp) (by simp;omega) (g:= .shared)
       simp only[List.map_append,List.map_cons,List.map_nil,encStr]at hO
       repeat' (first
 |simp only[go_sem,hY,hZ,gA,gB,b1,hO]
 |(with_reducible refine CU (yH _) ?_)
 |(with_reducible refine aB hQ ?_;exact aU))
       refine eQ 1 1 ?_ ?_ (IH (rest,k+1,out++ [a.name]++a.x.names,_) ⟨g2,h2,by simp;omega,by simp<;>omega⟩ (Nat.lt_succ_self _))
       ·(simp only[go_sem,hY,hZ,gA,gB,aM cd,List.map_append,List.map_cons,List.map_nil,encStr];try exact bQ)
       ·(simp only[go_sem,hY,hZ,gA,gB,aM cd,List.map_append,List.map_cons,List.map_nil,encStr];try exact bQ)
      ·simp only [b1,Bool.false_eq_true,if_false]at h2
       have hO:=lP (l:=out) (nx:=a.x.names) rfl (by omega) (g:= .shared)
       repeat' (first
 |simp only[go_sem,hY,hZ,gA,gB,b1,hO]
 |(with_reducible refine CU (yH _) ?_)
 | (with_reducible refine aB hQ ?_;exact aU))
       refine eQ 1 1 ?_ ?_ (IH (rest,k+1,out++a.x.names,_) ⟨g2,h2,by simp;omega,by simp<;>omega⟩ (Nat.lt_succ_self _))
       ·(simp only[go_sem,hY,hZ,gA,gB,aM cd];try exact bQ)
       ·(simp only[go_sem,hY,hZ,gA,gB,aM cd];try exact bQ)
   ·have b3:(v.name == [])=true:=by simpa using b2
    repeat' (first
 |simp only[go_sem,hY,hZ,gA,gB,b1,b2,b3,hO]
 |(with_reducible refine CU (hx _) ?_)
 | (with_reducible refine aB hQ ?_;exact aU))
    refine bn.oZ 3 1 rfl ?_
    simp only[go_sem,hY,hZ,gA,gB]
    refine cq 1 1 (bn.ind (ι:=List Ar×Nat×List ay×Nat) (fun i=>v.args.drop i.2.1=i.1∧Ar.said i.2.2.1 i.1=R∧i.2.2.1.length+Ar.aT i.1≤2000000∧i.2.2.2=i.2.2.1.length) (fun i=>i.1.length)
     (fun i=> [(3, .slice (.tok 0) 1 (i.2.2.1.map encStr)),(1, .ptr 0 0),(25, .slice .shared 6 (v.args.map fb)),(26, .int .i64 (v.args.length:Int)),(27, .int .i64 (i.2.1:Int))]) (fun i=>⟨[bh v],[some i.2.2.2]⟩) ?_ (v.args,0,[],0) ⟨rfl,hG,by simp at Ph ⊢;omega,by simp⟩)
    rintro⟨rest,k,out,n'⟩ ⟨h1,h2,h3,h4⟩ IH
    dsimp only at h1 h2 h3 h4
    subst h4
    cases rest with
    |nil=>
     have hY:=drop_nil h1
     simp only[Ar.said]at h2
     subst h2
     repeat' (first
 |simp only[go_sem,hY,hZ,gA,gB]
 | (with_reducible refine aB hQ ?_;exact aU))
    | cons a rest=>
     obtain⟨hZ,g2,hY,g4⟩:=drop_cons h1
     have cd:k<4611686018427387904:=by omega
     simp only[Ar.said]at h2
     simp only[Ar.aT]at h3
     have yH:=fun s=>oG (x:=a.x) (by have:=Ar.bJ (List.mem_of_getElem? hZ);omega) (Mx a (List.mem_of_getElem? hZ)) s
     have hl:=mr a.x
     have gA:(out.length+1)*17≤aF:=by unfold aF;omega
     rcases Bool.eq_false_or_eq_true a.ref with b1|b1
     ·simp only [b1,if_true]at h2
      have hO:=lP (l:=out++ [a.name]) (nx:=a.x.names) (n:=out.length+1) (by simp) (by simp;omega) (g:= .shared)
      simp only[List.map_append,List.map_cons,List.map_nil,encStr]at hO
      repeat' (first
 |simp only[go_sem,hY,hZ,gA,gB,b1,hO]
 |(with_reducible refine CU (yH _) ?_)
 |(with_reducible refine aB hQ ?_;exact aU))
      refine eQ 1 1 ?_ ?_ (IH (rest,k+1,out++ [a.name]++a.x.names,_) ⟨g2,h2,by simp;omega,by simp<;>omega⟩ (Nat.lt_succ_self _))
      ·(simp only[go_sem,hY,hZ,gA,gB,aM cd,List.map_append,List.map_cons,List.map_nil,encStr];try exact bQ)
      ·(simp only[go_sem,hY,hZ,gA,gB,aM cd,List.map_append,List.map_cons,List.map_nil,encStr];try exact bQ)
     ·simp only [b1,Bool.false_eq_true,if_false]at h2
      have hO:=lP (l:=out) (nx:=a.x.names) rfl (by omega) (g:= .shared)
      repeat' (first
 |simp only[go_sem,hY,hZ,gA,gB,b1,hO]
 |(with_reducible refine CU (yH _) ?_)
 | (with_reducible refine aB hQ ?_;exact aU))
      refine eQ 1 1 ?_ ?_ (IH (rest,k+1,out++a.x.names,_) ⟨g2,h2,by simp;omega,by simp<;>omega⟩ (Nat.lt_succ_self _))
      ·(simp only[go_sem,hY,hZ,gA,gB,aM cd];try exact bQ)
      ·(simp only[go_sem,hY,hZ,gA,gB,aM cd];try exact bQ)
  ·have hO : ∀ o:List (List D),mL 1 16 (.slice .full 0 []) (.slice .shared 1 (nx.map encStr)) ⟨o,[]⟩=some (.slice (.tok 0) 1 (nx.map encStr),⟨o,[some nx.length]⟩):=fun o=>by
    have:nx.length*17≤aF:=by unfold aF;omega
    cases nx with
    |nil=>exact absurd rfl Lq
    |cons a r=>simp only[List.length_cons]at this;simp[mL,this]
   have HB:(v.kind != 10)=false∨(v.kind != 10)=true∧(v.name != [])=false:=by
    cases h1:(v.kind != 10)
    ·exact .inl rfl
    ·rw[h1]at tH;exact .inr ⟨rfl,by simpa using tH⟩
   rcases HB with b1|⟨b1,b2⟩
   ·rcases Bool.eq_false_or_eq_true (v.name != [])with b2 | b2
    all_goals
     have b3:(v.name == []) = !(v.name != []):=by simp only[bne,Bool.not_not]
     rw[b2]at b3
     repeat' (first
 |simp only[go_sem,hY,hZ,gA,gB,b1,b2,b3,Bool.not_true,Bool.not_false,hO]
 |(with_reducible refine CU (hx _) ?_)
 | (with_reducible refine aB hQ ?_;simp only[cj,cr,dK,dL,go_sem,hY,hZ,gA,gB];repeat' (first|exact Ok.out|with_reducible refine kM ?_ ?_|(simp;done))))
    all_goals
     refine cq 1 1 (bn.ind (ι:=List Ar×Nat×List ay×Nat) (fun i=>v.args.drop i.2.1=i.1∧Ar.said i.2.2.1 i.1=R∧i.2.2.1.length+Ar.aT i.1≤2000000∧i.2.2.2=i.2.2.1.length) (fun i=>i.1.length)
      (fun i=> [(3, .slice (.tok 0) 1 (i.2.2.1.map encStr)),(1, .ptr 0 0),(25, .slice .shared 6 (v.args.map fb)),(26, .int .i64 (v.args.length:Int)),(27, .int .i64 (i.2.1:Int))]) (fun i=>⟨[bh v],[some i.2.2.2]⟩) ?_ (v.args,0,nx,_) ⟨rfl,hG,by simp at Ph ⊢;omega,by simp⟩)
     rintro⟨rest,k,out,n'⟩ ⟨h1,h2,h3,h4⟩ IH
     dsimp only at h1 h2 h3 h4
     subst h4
     cases rest with
     |nil=>
      have hY:=drop_nil h1
      simp only[Ar.said]at h2
      subst h2
      repeat' (first
 |simp only[go_sem,hY,hZ,gA,gB]
 |(with_reducible refine aB hQ ?_;exact aU))
     | cons a rest=>
      obtain⟨hZ,g2,hY,g4⟩:=drop_cons h1
      have cd:k<4611686018427387904:=by omega
      simp only[Ar.said]at h2
      simp only[Ar.aT]at h3
      have yH:=fun s=>oG (x:=a.x) (by have:=Ar.bJ (List.mem_of_getElem? hZ);omega) (Mx a (List.mem_of_getElem? hZ)) s
      have hl:=mr a.x
      have gA:(out.length+1)*17≤aF:=by unfold aF;omega
      rcases Bool.eq_false_or_eq_true a.ref with b1|b1
      ·simp only [b1,if_true]at h2
       have hO:=lP (l:=out++ [a.name]) (nx:=a.x.names) (n:=out.length+1) (by simp) (by simp;omega) (g:= .shared)
       simp only[List.map_append,List.map_cons,List.map_nil,encStr]at hO
       repeat' (first
 |simp only[go_sem,hY,hZ,gA,gB,b1,hO]
 |(with_reducible refine CU (yH _) ?_)
 |(with_reducible refine aB hQ ?_;exact aU))
       refine eQ 1 1 ?_ ?_ (IH (rest,k+1,out++ [a.name]++a.x.names,_) ⟨g2,h2,by simp;omega,by simp<;>omega⟩ (Nat.lt_succ_self _))
       ·(simp only[go_sem,hY,hZ,gA,gB,aM cd,List.map_append,List.map_cons,List.map_nil,encStr];try exact bQ)
       ·(simp only[go_sem,hY,hZ,gA,gB,aM cd,List.map_append,List.map_cons,List.map_nil,encStr];try exact bQ)
      ·simp only [b1,Bool.false_eq_true,if_false]at h2
       have hO:=lP (l:=out) (nx:=a.x.names) rfl (by omega) (g:= .shared)
       repeat' (first
 |simp only[go_sem,hY,hZ,gA,gB,b1,hO]
 |(with_reducible refine CU (yH _) ?_)
 | (with_reducible refine aB hQ ?_;exact aU))
       refine eQ 1 1 ?_ ?_ (IH (rest,k+1,out++a.x.names,_) ⟨g2,h2,by simp;omega,by simp<;>omega⟩ (Nat.lt_succ_self _))
       ·(simp only[go_sem,hY,hZ,gA,gB,aM cd];try exact bQ)
       ·(simp only[go_sem,hY,hZ,gA,gB,aM cd];try exact bQ)
   ·have b3:(v.name == [])=true:=by simpa using b2
    repeat' (first
 |simp only[go_sem,hY,hZ,gA,gB,b1,b2,b3,hO]
 |(with_reducible refine CU (hx _) ?_)
 | (with_reducible refine aB hQ ?_;exact aU))
    refine cq 1 1 (bn.ind (ι:=List Ar×Nat×List ay×Nat) (fun i=>v.args.drop i.2.1=i.1∧Ar.said i.2.2.1 i.1=R∧i.2.2.1.length+Ar.aT i.1≤2000000∧i.2.2.2=i.2.2.1.length) (fun i=>i.1.length)
     (fun i=> [(3, .slice (.tok 0) 1 (i.2.2.1.map encStr)),(1, .ptr 0 0),(25, .slice .shared 6 (v.args.map fb)),(26, .int .i64 (v.args.length:Int)),(27, .int .i64 (i.2.1:Int))]) (fun i=>⟨[bh v],[some i.2.2.2]⟩) ?_ (v.args,0,nx,_) ⟨rfl,hG,by simp at Ph ⊢;omega,by simp⟩)
    rintro⟨rest,k,out,n'⟩ ⟨h1,h2,h3,h4⟩ IH
    dsimp only at h1 h2 h3 h4
    subst h4
    cases rest with
    |nil=>
     have hY:=drop_nil h1
     simp only[Ar.said]at h2
     subst h2
     repeat' (first
 |simp only[go_sem,hY,hZ,gA,gB]
 | (with_reducible refine aB hQ ?_;exact aU))
    | cons a rest=>
     obtain⟨hZ,g2,hY,g4⟩:=drop_cons h1
     have cd:k<4611686018427387904:=by omega
     simp only[Ar.said]at h2
     simp only[Ar.aT]at h3
     have yH:=fun s=>oG (x:=a.x) (by have:=Ar.bJ (List.mem_of_getElem? hZ);omega) (Mx a (List.mem_of_getElem? hZ)) s
     have hl:=mr a.x
     have gA:(out.length+1)*17≤aF:=by unfold aF;omega
     rcases Bool.eq_false_or_eq_true a.ref with b1|b1
     ·simp only [b1,if_true]at h2
      have hO:=lP (l:=out++ [a.name]) (nx:=a.x.names) (n:=out.length+1) (by simp) (by simp;omega) (g:= .shared)
      simp only[List.map_append,List.map_cons,List.map_nil,encStr]at hO
      repeat' (first
 |simp only[go_sem,hY,hZ,gA,gB,b1,hO]
 |(with_reducible refine CU (yH _) ?_)
 |(with_reducible refine aB hQ ?_;exact aU))
      refine eQ 1 1 ?_ ?_ (IH (rest,k+1,out++ [a.name]++a.x.names,_) ⟨g2,h2,by simp;omega,by simp<;>omega⟩ (Nat.lt_succ_self _))
      ·(simp only[go_sem,hY,hZ,gA,gB,aM cd,List.map_append,List.map_cons,List.map_nil,encStr];try exact bQ)
      ·(simp only[go_sem,hY,hZ,gA,gB,aM cd,List.map_append,List.map_cons,List.map_nil,encStr];try exact bQ)
     ·simp only [b1,Bool.false_eq_true,if_false]at h2
      have hO:=lP (l:=out) (nx:=a.x.names) rfl (by omega) (g:= .shared)
      repeat' (first
 |simp only[go_sem,hY,hZ,gA,gB,b1,hO]
 |(with_reducible refine CU (yH _) ?_)
 |(with_reducible refine aB hQ ?_;exact aU))
      refine eQ 1 1 ?_ ?_ (IH (rest,k+1,out++a.x.names,_) ⟨g2,h2,by simp;omega,by simp<;>omega⟩ (Nat.lt_succ_self _))
      ·(simp only[go_sem,hY,hZ,gA,gB,aM cd];try exact bQ)
      ·(simp only[go_sem,hY,hZ,gA,gB,aM cd];try exact bQ)
theorem mf : ∀ (a b:List It) (n:Nat),It.e7 n (a++b)=(It.e7 n a && It.e7 (n+a.length) b)
 | [],b,n=>by simp[It.e7]
 |i::a,b,n=>by
  simp only[List.cons_append,It.e7,mf a b (n+1),List.length_cons]
  have:n+1+a.length=n+(a.length+1):=by omega
  rw[this]
  split<;>simp
theorem GU (n:Nat) (i:It):It.e7 n [i] = true↔i.s.id=((n+1:Nat):Int)∧i.deep≤12∧i.s.one=true:=by
 simp only[It.e7]
 split
 ·rename_i h
  simp only[Bool.or_eq_true,bne_iff_ne,ne_eq,decide_eq_true_eq,Bool.not_eq_true']at h
  refine⟨fun h=>(Bool.false_ne_true h).elim,fun⟨h1,h2,h3⟩=>?_⟩
  rcases h with (h|h)|h
  ·exact(h h1).elim
  ·omega
  ·rw[h]at h3;cases h3
 ·rename_i h
  simp only[Bool.or_eq_true,bne_iff_ne,ne_eq,decide_eq_true_eq,Bool.not_eq_true',not_or,Decidable.not_not,Bool.not_eq_false]at h
  exact⟨fun _=>⟨h.1.1,by omega,h.2⟩,fun _=>rfl⟩
mutual
theorem Dh (deep aN:Int) (aL:Bool) : ∀ (s:Sm) (out:List It),∃ new,iF deep aN aL out s=out++(⟨s,deep,aN,aL⟩::new)
 | ⟨id,kind,labels,name,proc,x,has,args,aS,e⟩,out=>by
  simp only[iF]
  split
  ·obtain⟨n1,h1⟩:=sq (deep+1) id false aS (out++ [⟨⟨id,kind,labels,name,proc,x,has,args,aS,e⟩,deep,aN,aL⟩])
   obtain⟨n2,h2⟩:=sq (deep+1) id true e (dW (deep+1) id false (out++ [⟨⟨id,kind,labels,name,proc,x,has,args,aS,e⟩,deep,aN,aL⟩]) aS)
   rw[h2,h1]
   exact⟨n1++n2,by simp⟩
  ·exact⟨[],rfl⟩
theorem sq (deep aN:Int) (aL:Bool) : ∀ (l:List Sm) (out:List It),∃ new,dW deep aN aL out l=out++new
 | [],out=>⟨[],by simp[dW]⟩
 | s::l,out=>by
  simp only[dW]
  split
  ·obtain⟨n1,h1⟩:=Dh deep aN aL s out
   obtain⟨n2,h2⟩:=sq deep aN aL l (iF deep aN aL out s)
   rw[h2,h1]
   exact⟨⟨s,deep,aN,aL⟩::n1++n2,by simp⟩
  ·exact⟨[],by simp⟩
end
theorem mw {nest:Int} {n:Nat} {s:Sm} (h:(Sm.jU nest n s).1=true) :
 n+1≤200∧s.id=((n+1:Nat):Int)∧s.one=true∧(Sm.gF (nest+1) (n+1) s.aS).1=true∧(Sm.gF (nest+1) (Sm.gF (nest+1) (n+1) s.aS).2 s.aL).1=true∧
 (Sm.jU nest n s).2=(Sm.gF (nest+1) (Sm.gF (nest+1) (n+1) s.aS).2 s.aL).2:=by
 rw[Ij]at h ⊢
 split at h
 ·cases h
 rename_i h1
 simp only[Bool.or_eq_true,bne_iff_ne,ne_eq,decide_eq_true_eq,Bool.not_eq_true',not_or,Decidable.not_not,Bool.not_eq_false]at h1
 split at h
 ·cases h
 rename_i h2
 have zZ:(Sm.gF (nest+1) (n+1) s.aS).1=true:=by simpa using h2
 refine⟨by omega,h1.1.1.2, ?_,zZ,h, ?_⟩
 ·rw[GR,h1.1.2,h1.2];rfl
 ·rw[if_neg (by simp only[Bool.or_eq_true,bne_iff_ne,ne_eq,decide_eq_true_eq,Bool.not_eq_true',not_or,Decidable.not_not,Bool.not_eq_false];exact h1),if_neg h2]
theorem fP {nest:Int} {n:Nat} {l:List Sm} (h:(Sm.gF nest n l).1=true):(l = []∨nest≤12)∧Sm.gF nest n l=Sm.dA nest n l:=by
 unfold Sm.gF gate at *
 split at h
 ·cases h
 ·rename_i hc
  rw[if_neg hc]
  refine⟨?_,rfl⟩
  simp only[Bool.and_eq_true,decide_eq_true_eq,not_and]at hc
  cases l with
  |nil=>exact .inl rfl
  |cons s l=>right;simp only[List.length_cons]at hc;omega
mutual
theorem U5 : ∀ (s:Sm) (nest aN:Int) (aL:Bool) (n:Nat) (out:List It),nest≤12→out.length≤n→n≤200→(Sm.jU nest n s).1=true→
 ∃ new,iF nest aN aL out s=out++new∧It.e7 n new=true∧n+new.length=(Sm.jU nest n s).2∧(Sm.jU nest n s).2≤200
 | ⟨id,kind,labels,name,proc,x,has,args,aS,e⟩,nest,aN,aL,n,out,fB,ho,hn,h=>by
  obtain⟨h1,h2,h3,h4,h5,h6⟩:=mw h
  dsimp only at h2 h4 h5 h6
  rw[h6]
  obtain⟨g1,e1⟩:=fP h4
  rw[e1]at h4 h5 ⊢
  obtain⟨g2,e2⟩:=fP h5
  rw[e2]at h5 ⊢
  have wq:It.e7 n [(⟨⟨id,kind,labels,name,proc,x,has,args,aS,e⟩,nest,aN,aL⟩:It)] = true:=(GU _ _).2 ⟨h2,fB,h3⟩
  obtain⟨n1,k1,k2,k3,k4⟩:=yI aS (nest+1) id false (n+1) (out++ [⟨⟨id,kind,labels,name,proc,x,has,args,aS,e⟩,nest,aN,aL⟩]) g1 (by simp;omega) h1 h4
  obtain⟨n2,j1,j2,j3,j4⟩:=yI e (nest+1) id true _ (out++ [⟨⟨id,kind,labels,name,proc,x,has,args,aS,e⟩,nest,aN,aL⟩]++n1) g2 (by simp;omega) k4 h5
  simp only[iF]
  rw[if_pos (by simpa using fB),k1,j1]
  refine⟨⟨⟨id,kind,labels,name,proc,x,has,args,aS,e⟩,nest,aN,aL⟩::(n1++n2),by simp, ?_, ?_,j4⟩
  ·have:(⟨⟨id,kind,labels,name,proc,x,has,args,aS,e⟩,nest,aN,aL⟩:It)::(n1++n2) = [⟨⟨id,kind,labels,name,proc,x,has,args,aS,e⟩,nest,aN,aL⟩]++n1++n2:=by simp
   rw[this,mf,mf,wq,Bool.true_and]
   have e3:n+([(⟨⟨id,kind,labels,name,proc,x,has,args,aS,e⟩,nest,aN,aL⟩:It)]++n1).length=(Sm.dA (nest+1) (n+1) aS).2:=by simp;omega
   rw[e3,j2]
   have e4:n + [(⟨⟨id,kind,labels,name,proc,x,has,args,aS,e⟩,nest,aN,aL⟩:It)].length=n+1:=rfl
   rw[e4,k2];rfl
  ·simp only[List.length_cons,List.length_append];omega
theorem yI : ∀ (l:List Sm) (nest aN:Int) (aL:Bool) (n:Nat) (out:List It),(l = []∨nest≤12)→out.length≤n→n≤200→(Sm.dA nest n l).1=true→
 ∃ new,dW nest aN aL out l=out++new∧It.e7 n new=true∧n+new.length=(Sm.dA nest n l).2∧(Sm.dA nest n l).2≤200
 | [],nest,aN,aL,n,out,fB,ho,hn,h=>⟨[],by simp[dW],rfl,by simp[Sm.dA],by simpa[Sm.dA]using hn⟩
 |s::l,nest,aN,aL,n,out,fB,ho,hn,h=>by
  have My:nest≤12:=fB.resolve_left (by simp)
  simp only[Sm.dA]at h ⊢
  split at h
  ·cases h
  rename_i hc
  rw[if_neg hc]
  obtain⟨n1,k1,k2,k3,k4⟩:=U5 s nest aN aL n out My ho hn (by simpa using hc)
  obtain⟨n2,j1,j2,j3,j4⟩:=yI l nest aN aL _ (out++n1) (.inr My) (by simp;omega) k4 h
  simp only[dW]
  rw[if_pos (by simp only[decide_eq_true_eq];omega),k1,j1]
  refine⟨n1++n2,by simp, ?_,by simp;omega,j4⟩
  rw[mf,k2,k3,j2];rfl
end
mutual
theorem U6 : ∀ (s:Sm) (nest aN:Int) (aL:Bool) (n:Nat) (out new:List It),iF nest aN aL out s=out++new→It.e7 n new=true→out.length≤n→n+new.length≤200→
 Sm.jU nest n s=(true,n+new.length)∧nest≤12
 | ⟨id,kind,labels,name,proc,x,has,args,aS,e⟩,nest,aN,aL,n,out,new,ml,hm,ho,hn=>by
  obtain⟨n0,h0⟩:=Dh nest aN aL ⟨id,kind,labels,name,proc,x,has,args,aS,e⟩ out
  have e0:new = ⟨⟨id,kind,labels,name,proc,x,has,args,aS,e⟩,nest,aN,aL⟩::n0:=List.append_cancel_left (ml.symm.trans h0)
  subst e0
  have aiU:(⟨⟨id,kind,labels,name,proc,x,has,args,aS,e⟩,nest,aN,aL⟩:It)::n0 = [⟨⟨id,kind,labels,name,proc,x,has,args,aS,e⟩,nest,aN,aL⟩]++n0:=rfl
  rw[aiU,mf,Bool.and_eq_true]at hm
  obtain⟨Mz,hm2⟩:=hm
  obtain⟨c1,c2,c3⟩:=(GU _ _).1 Mz
  dsimp only at c1 c2 c3
  simp only[List.length_cons]at hn ⊢
  have Ys:dW (nest+1) id true (dW (nest+1) id false (out++ [⟨⟨id,kind,labels,name,proc,x,has,args,aS,e⟩,nest,aN,aL⟩]) aS) e=out++([⟨⟨id,kind,labels,name,proc,x,has,args,aS,e⟩,nest,aN,aL⟩]++n0):=by
   simp only[iF]at ml
   rw[if_pos (by simpa using c2)]at ml
   exact ml
  obtain⟨n1,g1⟩:=sq (nest+1) id false aS (out++ [⟨⟨id,kind,labels,name,proc,x,has,args,aS,e⟩,nest,aN,aL⟩])
  obtain⟨n2,g2⟩:=sq (nest+1) id true e (dW (nest+1) id false (out++ [⟨⟨id,kind,labels,name,proc,x,has,args,aS,e⟩,nest,aN,aL⟩]) aS)
  have en:n0=n1++n2:=by
   rw[g2,g1]at Ys
   simp only[List.append_assoc,List.append_cancel_left_eq]at Ys
   exact Ys.symm
  subst en
  have Yt:It.e7 (n+1) (n1++n2)=true:=hm2
  rw[mf,Bool.and_eq_true]at Yt
  simp only[List.length_append]at hn ⊢
  obtain⟨r1,r2⟩:=yJ aS (nest+1) id false (n+1) _ n1 g1 Yt.1 (by simp;omega) (by omega)
  obtain⟨q1,q2⟩:=yJ e (nest+1) id true (n+1+n1.length) _ n2 g2 Yt.2 (by rw[g1];simp;omega) (by omega)
  refine⟨?_,c2⟩
  have gg : ∀ {l:List Sm} {m:Nat} {r:Bool×Nat},Sm.dA (nest+1) m l=r→(l = []∨nest+1≤12)→Sm.gF (nest+1) m l=r:=by
   intro l m r h1 h2
   unfold Sm.gF gate
   rw[if_neg]
   ·exact h1
   ·simp only [Bool.and_eq_true,decide_eq_true_eq,not_and]
    rcases h2 with h2|h2
    ·subst h2;simp
    ·omega
  have t1:=gg r1 r2
  have t2:=gg q1 q2
  rw[Ij]
  dsimp only
  rw[t1]
  dsimp only
  rw[t2]
  rw[GR,Bool.and_eq_true]at c3
  rw[if_neg]
  ·simp;omega
  ·simp only [Bool.or_eq_true,bne_iff_ne,ne_eq,decide_eq_true_eq,Bool.not_eq_true',not_or,Decidable.not_not,Bool.not_eq_false]
   exact⟨⟨⟨by omega,c1⟩,c3.1⟩,c3.2⟩
theorem yJ : ∀ (l:List Sm) (nest aN:Int) (aL:Bool) (n:Nat) (out new:List It),dW nest aN aL out l=out++new→It.e7 n new=true→out.length≤n→n+new.length≤200→
 Sm.dA nest n l=(true,n+new.length)∧(l = []∨nest≤12)
 | [],nest,aN,aL,n,out,new,ml,hm,ho,hn=>by
  simp only[dW]at ml
  have:new = []:=by simpa using ml
  subst this
  exact⟨by simp[Sm.dA], .inl rfl⟩
 | s::l,nest,aN,aL,n,out,new,ml,hm,ho,hn=>by
  simp only[dW]at ml
  rw[if_pos (by simp only[decide_eq_true_eq];omega)]at ml
  obtain⟨n1,g1⟩:=Dh nest aN aL s out
  obtain⟨n2,g2⟩:=sq nest aN aL l (iF nest aN aL out s)
  have en:new=(⟨s,nest,aN,aL⟩::n1)++n2:=by
   rw[g2,g1,List.append_assoc,List.append_cancel_left_eq]at ml
   exact ml.symm
  subst en
  rw[mf,Bool.and_eq_true]at hm
  rw[List.length_append]at hn ⊢
  obtain⟨r1,r2⟩:=U6 s nest aN aL n out _ g1 hm.1 ho (by omega)
  obtain⟨q1,q2⟩:=yJ l nest aN aL (n+(⟨s,nest,aN,aL⟩::n1:List It).length) _ n2 g2 hm.2 (by rw[g1,List.length_append];omega) (by omega)
  refine⟨?_, .inr r2⟩
  simp only[Sm.dA,r1,Bool.not_true,Bool.false_eq_true,↓reduceIte,q1]
  congr 1;omega
end
theorem Di : ∀ (l:List Pc) (out:List It),out.length≤200→(Pc.dA out.length l=true↔Pc.nI l=true∧∃ new,allM out l=out++new∧(out++new).length≤200∧It.e7 out.length new=true)
 | [],out,ho=>by simp[Pc.dA,Pc.nI,allM,It.e7];exact ho
 | f::l,out,ho=>by
  have zI : ∀ (l:List Pc) (out:List It),∃ new,allM out l=out++new:=by
   intro l
   induction l with
   |nil=>intro out;exact⟨[],by simp[allM]⟩
   | cons f l ih=>
    intro out
    simp only[allM]
    split
    ·exact⟨_,rfl⟩
    ·obtain⟨n1,h1⟩:=ih (out++f.flat)
     exact⟨f.flat++n1,by rw[h1,List.append_assoc]⟩
  simp only[Pc.dA,Pc.nI]
  have aiV:(decide ((f.params.length:Int) > 8) ||decide ((f.vars.length:Int) > 16) || !(isName f.name) || !(dn f.vars) || !(dn f.fin))=(!(isName f.name) ||decide ((f.params.length:Int) > 8) ||decide ((f.vars.length:Int) > 16) || !(dn f.vars) || !(dn f.fin)):=by
   cases isName f.name<;>simp
  rw[aiV]
  split
  ·simp
  split
  ·simp
  have hg:Sm.gF 1 out.length f.body=Sm.dA 1 out.length f.body:=by unfold Sm.gF gate;rw[if_neg (by simp)]
  rw[hg]
  constructor
  ·intro h
   split at h
   ·cases h
   rename_i hc
   obtain⟨n1,k1,k2,k3,k4⟩:=yI f.body 1 0 false out.length [] (.inr (by omega)) (by simp) ho (by simpa using hc)
   have ml:f.flat=n1:=by unfold Pc.flat;rw[k1];rfl
   rw[← k3, ← List.length_append]at h
   obtain⟨hh,n2,j1,j2,j3⟩:=(Di l (out++n1) (by rw[List.length_append];omega)).1 h
   refine⟨hh,n1++n2, ?_,by simpa using j2, ?_⟩
   ·simp only [allM,ml]
    rw[if_neg (by simp only[List.length_append,decide_eq_true_eq];omega),j1,List.append_assoc]
   ·rw[mf,k2, ← List.length_append,j3];rfl
  ·rintro⟨hh,new,j1,j2,j3⟩
   simp only[allM]at j1
   split at j1
   ·rename_i hc
    have:new=f.flat:=(List.append_cancel_left j1).symm
    subst this
    simp only[decide_eq_true_eq]at hc
    omega
   rename_i hc
   simp only[decide_eq_true_eq]at hc
   obtain⟨n2,g2⟩:=zI l (out++f.flat)
   have en:new=f.flat++n2:=by
    rw[g2,List.append_assoc]at j1
    exact(List.append_cancel_left j1).symm
   subst en
   rw[mf,Bool.and_eq_true]at j3
   rw[List.length_append,List.length_append]at j2
   obtain⟨r1,_⟩:=yJ f.body 1 0 false out.length [] f.flat (by unfold Pc.flat;rfl) j3.1 (by simp) (by omega)
   rw[r1]
   simp only[Bool.not_true,Bool.false_eq_true,↓reduceIte]
   rw[← List.length_append]
   exact(Di l (out++f.flat) (by rw[List.length_append];omega)).2 ⟨hh,n2,g2,by simp;omega,by rw[List.length_append];exact j3.2⟩
theorem ui (p:Pg):p.zH=p.may:=by
 have h:=Di p.procs [] (by simp)
 unfold Pg.zH Pg.may
 split
 ·rfl
 ·have e:Pc.dA 0 p.procs=(if !(Pc.nI p.procs)then false else if decide ((p.all.length:Int) > 200)then false else It.e7 0 p.all):=by
   rw[Bool.eq_iff_iff]
   have h':Pc.dA 0 p.procs=true↔_:=h
   rw[h']
   have ha:p.all=allM [] p.procs:=rfl
   constructor
   ·rintro⟨h1,new,h2,h3,h4⟩
    rw[ha,h2,h1]
    simp only[List.nil_append]at h3 ⊢
    simp only[Bool.not_true,Bool.false_eq_true,↓reduceIte]
    rw[if_neg (by simp only[decide_eq_true_eq];omega)]
    exact h4
   ·intro h1
    cases hh:Pc.nI p.procs
    ·rw[hh]at h1;simp at h1
    ·rw [hh]at h1
     simp only[Bool.not_true,Bool.false_eq_true,↓reduceIte]at h1
     split at h1
     ·cases h1
     ·rename_i hc
      simp only[decide_eq_true_eq]at hc
      exact⟨rfl,p.all,by rw[ha];rfl,by simp;omega,h1⟩
  exact e
theorem GV {size bytes z:Nat} {g:Tag} {rows:List (List D)} {s:St} (h:rows.length*(bytes+1)≤aF) (hr:rows≠ []) :
 mL size bytes (.slice .full z []) (.slice g size rows) s=some (.slice (.tok s.aD.length) size rows,⟨s.az,s.aD++ [some rows.length]⟩):=by
 cases rows with
 |nil=>exact absurd rfl hr
 |cons r l=>simp only[mL];simp at h ⊢;exact h
theorem yK {l:List ay} (hl:l.length<1073741824) (g:Tag) (s:St):aA Tryz.prog iM [.slice g 1 (l.map encStr)] s (.slice .shared 1 (l.map encStr)) s:=by
 refine fh.CR (.cons (Wk.shared _ _ _) .nil) (aA.pure ?_ (by simp[D.bN,D.ok,Tag.ok,fw]) (by simp[D.ok,Tag.ok,fw]) s)
 unfold S0
 refine aA.go ye rfl fun B Q hB hQ=>?_
 have⟨hY,hZ,gA,gB⟩:=bu
 cases l with
 |nil=>
  repeat' (first
 |simp only[go_sem,hY,hZ,gA,gB]
 |(with_reducible refine aB hQ ?_;exact aU))
  refine LW (fun _=>?_) ?_
  ·repeat' (first
 |simp only[go_sem,hY,hZ,gA,gB,mL,true_or,Nat.zero_le]
 |(with_reducible refine aB hQ ?_;exact aU))
  ·repeat' (first
 |simp only[go_sem,hY,hZ,gA,gB,mL,true_or,Nat.zero_le]
 |(with_reducible refine aB hQ ?_;exact aU))
 |cons x l=>
  have e:((x::l).map encStr).length*(16+1)≤aF:=by simp only[List.length_map,aF];omega
  have e2:=fun s=>GV (size:=1) (z:=1) (g:= .shared) (s:=s) e (by simp)
  simp only[List.map_cons,encStr]at e2
  repeat' (first
 |simp only[go_sem,hY,hZ,gA,gB,e2]
 |(with_reducible refine aB hQ ?_;exact aU))
theorem Yu {l:List Pm} (hl:l.length<1073741824) (g:Tag) (s:St):aA Tryz.prog mR [.slice g 2 (l.map fC)] s (.slice .shared 2 (l.map fC)) s:=by
 refine fh.CR (.cons (Wk.shared _ _ _) .nil) (aA.pure ?_ (by simp[D.bN,D.ok,Tag.ok,RN]) (by simp[D.ok,Tag.ok,RN]) s)
 unfold S0
 refine aA.go vW rfl fun B Q hB hQ=>?_
 have⟨hY,hZ,gA,gB⟩:=bu
 cases l with
 |nil=>
  repeat' (first
 |simp only[go_sem,hY,hZ,gA,gB]
 |(with_reducible refine aB hQ ?_;exact aU))
  refine LW (fun _=>?_) ?_
  ·repeat' (first
 |simp only[go_sem,hY,hZ,gA,gB,mL,true_or,Nat.zero_le]
 |(with_reducible refine aB hQ ?_;exact aU))
  ·repeat' (first
 |simp only[go_sem,hY,hZ,gA,gB,mL,true_or,Nat.zero_le]
 |(with_reducible refine aB hQ ?_;exact aU))
 |cons x l=>
  have e:((x::l).map fC).length*(24+1)≤aF:=by simp only[List.length_map,aF];omega
  have e2:=fun s=>GV (size:=2) (z:=2) (g:= .shared) (s:=s) e (by simp)
  simp only[List.map_cons,encStr]at e2
  repeat' (first
 |simp only[go_sem,hY,hZ,gA,gB,e2]
 |(with_reducible refine aB hQ ?_;exact aU))
theorem afK : ∀ n,n<1073741824→∀ x:Ex,x.size≤n→aA Tryz.prog nX [.agg (bx x)] S0 (.agg (bx x)) S0:=by
 intro n
 induction n with
 |zero=>rintro _ ⟨op,m,name,kids⟩ h;simp only[Ex.size]at h;omega
 |succ n ihn=>
 rintro hn ⟨op,m,name,kids⟩ hx
 have hk : ∀ y∈kids,∀ s,aA Tryz.prog nX [.agg (bx y)] s (.agg (bx y)) s:=fun y hy s=>
  (ihn (by omega) y (by simp only[Ex.size]at hx;have:=Ex.bJ hy;omega)).pure (by simp[D.bN,D.ok,gE]) (by simp[D.ok,gE]) s
 have hlen:kids.length<1073741824:=by simp only[Ex.size]at hx;have:=Ex.cu kids;omega
 unfold S0
 refine aA.go J9 rfl fun B Q hB hQ=>?_
 have⟨hY,hZ,gA,gB⟩:=bu
 repeat' (first
 |simp only[go_sem,hY,hZ,gA,gB]
 |(with_reducible refine aB hQ ?_;exact aU))
 refine bn.xn 0 3 4 rfl rfl ?_
 simp only[go_sem,hY,hZ,gA,gB]
 refine cq 2 1 (bn.ind (ι:=List Ex×Nat×List Ex) (fun i=>kids.drop i.2.1=i.1∧i.2.1=i.2.2.length∧i.2.2++i.1=kids) (fun i=>i.1.length)
  (fun i=> [(1, .ptr 0 0),(2, .ptr 1 0),(9, .slice .shared 4 (kids.map bx)),(10, .int .i64 (kids.length:Int)),(11, .int .i64 (i.2.1:Int))])
  (fun i=>⟨[[.int .i64 op, .int .i64 m, .str name, .slice (.tok 0) 4 (i.2.2.map bx)],bx jY],[some i.2.1]⟩) ?_ (kids,0,[]) ⟨rfl,rfl,rfl⟩)
 rintro⟨rest,k,acc⟩ ⟨h1,h2,h3⟩ IH
 dsimp only at h1 h2 h3
 subst h2
 cases rest with
 |nil=>
  have hY:=drop_nil h1
  rw[List.append_nil]at h3
  subst h3
  repeat' (first
 |simp only[go_sem,hY,hZ,gA,gB]
 |(with_reducible refine aB hQ ?_;exact aU))
 |cons y rest=>
  obtain⟨hZ,g2,hY,g4⟩:=drop_cons h1
  have gA:acc.length<4611686018427387904:=by omega
  have gC:(acc.length+1)*57≤aF:=by simp only[aF];omega
  have hy:=hk y (List.mem_of_getElem? hZ)
  repeat' (first
 |simp only[go_sem,hY,hZ,gA,gB,gC]
 |(with_reducible refine CU (hy _) ?_)
 |(with_reducible refine aB hQ ?_;exact aU))
  refine cq 2 1 (IH (rest,acc.length+1,acc++ [y]) ⟨g2,by simp,by simp only[List.append_assoc,List.cons_append,List.nil_append];exact h3⟩ (Nat.lt_succ_self _))
theorem U7 {x:Ex} (h:x.size<1073741824) (s:St):aA Tryz.prog nX [.agg (bx x)] s (.agg (bx x)) s:=
 (afK x.size h x (Nat.le_refl _)).pure (by simp[D.bN,D.ok,gE]) (by simp[D.ok,gE]) s
abbrev aaQ (b:Bool) (N:Nat):Prop:=∀ l:List Sm,Sm.aT l<N→∀ n:Nat,n+Sm.aT l<1073741824→∀ s:St,
 aA Tryz.prog lM [.slice .shared 13 (l.map bh), .int .i64 (n:Int), .bool b] s (.tuple [.slice .shared 13 ((Sm.fT b n l).1.map bh), .int .i64 ((Sm.fT b n l).2:Int)]) s
theorem Yv {N:Nat} (ih:aaQ true N) (l:List Sm) (hl:Sm.aT l<N+1) (n:Nat) (hn:n+Sm.aT l<1073741824) :
 aA Tryz.prog lM [.slice .shared 13 (l.map bh), .int .i64 (n:Int), .bool true] S0 (.tuple [.slice .shared 13 ((Sm.fT true n l).1.map bh), .int .i64 ((Sm.fT true n l).2:Int)]) S0:=by
 unfold S0
 refine aA.go Gr rfl fun B Q hB hQ=>?_
 have⟨hY,hZ,gA,gB⟩:=bu
 repeat' (first
 |simp only[go_sem,hY,hZ,gA,gB]
 |(with_reducible refine aB hQ ?_;exact aU))
 have hlen:l.length<1073741824:=by have:=Sm.cu l;omega
 refine bn.oZ 8 13 rfl ?_
 simp only[go_sem,hY,hZ,gA,gB]
 refine cq 0 1 (bn.ind (ι:=List Sm×Nat×List Sm×Nat) (fun i=>l.drop i.2.1=i.1∧i.2.1=i.2.2.1.length∧Sm.fT true n l=(i.2.2.1++(Sm.fT true i.2.2.2 i.1).1,(Sm.fT true i.2.2.2 i.1).2)∧i.2.2.2+Sm.aT i.1≤n+Sm.aT l) (fun i=>i.1.length)
  (fun i=> [(1, .int .i64 (i.2.2.2:Int)),(2, .bool true),(8, .slice (.tok 0) 13 (i.2.2.1.map bh)),(14, .slice .shared 13 (l.map bh)),(15, .int .i64 (l.length:Int)),(16, .int .i64 (i.2.1:Int))])
  (fun i=>⟨[],[some i.2.1]⟩) ?_ (l,0,[],n) ⟨rfl,rfl,rfl,Nat.le_refl _⟩)
 rintro⟨rest,k,acc,m⟩ ⟨h1,h2,h3,h4⟩ IH
 dsimp only at h1 h2 h3 h4
 subst h2
 cases rest with
 |nil=>
  have hY:=drop_nil h1
  simp only[Sm.fT,List.append_nil]at h3
  rw[h3]at hQ
  repeat' (first
 |simp only[go_sem,hY,hZ,gA,gB]
 |(with_reducible refine aB hQ ?_;exact aU))
 |cons y rest=>
  obtain⟨hZ,g2,hY,g4⟩:=drop_cons h1
  simp only[Sm.aT]at h4 hl
  have hm:m<4611686018427387904:=by omega
  have hk:acc.length<4611686018427387904:=by omega
  have ew:y.size≤N:=by have:=Sm.bJ (List.mem_of_getElem? hZ);omega
  obtain⟨id,kind,labels,name,proc,x,has,args,aS,aL⟩:=y
  simp only[Sm.size]at ew h4
  have gC:(acc.length+1)*209≤aF:=by simp only[aF];omega
  have hx:=fun s=>U7 (x:=x) (by omega) s
  simp only[gv]at hx
  have zW:=fun g s=>yK (l:=labels) (by omega) g s
  have ry:=Ar.cu args
  repeat' (first
 |simp only[go_sem,hY,hZ,gA,gB,aM hm]
 |(with_reducible refine CU (zW _ _) ?_)
 |(with_reducible refine CU (hx _) ?_)
 | (with_reducible refine aB hQ ?_;exact aU))
  refine bn.xn 1 10 6 rfl rfl ?_
  simp only[go_sem,hY,hZ,gA,gB]
  refine cq 2 2 (bn.ind (ι:=List Ar×Nat×List Ar) (fun i=>args.drop i.2.1=i.1∧i.2.1=i.2.2.length∧i.2.2++i.1=args) (fun i=>i.1.length)
   (fun i=> [(1, .int .i64 ((m+1:Nat):Int)),(2, .bool true),(8, .slice (.tok 0) 13 (acc.map bh)),(10, .ptr 0 0),(11, .ptr 1 0),(14, .slice .shared 13 (l.map bh)),(15, .int .i64 (l.length:Int)),(16, .int .i64 (acc.length:Int)),
    (36, .slice .shared 6 (args.map fb)),(37, .int .i64 (args.length:Int)),(38, .int .i64 (i.2.1:Int))])
   (fun i=>⟨[bh ⟨id,kind,labels,name,proc,x,has,args,aS,aL⟩,[.int .i64 ((m+1:Nat):Int), .int .i64 kind, .slice .shared 1 (labels.map encStr), .str name, .str proc, .int .i64 x.op, .int .i64 x.n, .str x.name, .slice .shared 4 (x.kids.map bx), .bool has, .slice (.tok 1) 6 (i.2.2.map fb), .slice .shared 13 (aS.map bh), .slice .shared 13 (aL.map bh)]],[some acc.length,some i.2.1]⟩) ?_ (args,0,[]) ⟨rfl,rfl,rfl⟩)
  rintro⟨Sl,ka,Io⟩ ⟨j1,j2,j3⟩ IHa
  dsimp only at j1 j2 j3
  subst j2
  cases Sl with
  |nil=>
   have hY:=drop_nil j1
   rw[List.append_nil]at j3
   subst j3
   have b1:=Sm.wW true (m+1) aS
   have b2:=Sm.wW true (Sm.fT true (m+1) aS).2 aL
   have c1:=ih aS (by omega) (m+1) (by omega)
   have c2:=ih aL (by omega) (Sm.fT true (m+1) aS).2 (by omega)
   repeat' (first
 |simp only[go_sem,hY,hZ,gA,gB,gC]
 |(with_reducible refine CU (c1 _) ?_)
 |(with_reducible refine CU (c2 _) ?_)
 | (with_reducible refine aB hQ ?_;exact aU))
   refine eQ 0 1 ?_ ?_ (IH (rest,acc.length+1,acc++ [(Sm.num true m ⟨id,kind,labels,name,proc,x,has,Io,aS,aL⟩).1],(Sm.num true m ⟨id,kind,labels,name,proc,x,has,Io,aS,aL⟩).2) ⟨g2,by simp,by rw[h3];simp[Sm.fT],by simp only[Sm.num];omega⟩ (Nat.lt_succ_self _))
   ·(simp only[go_sem,hY,hZ,gA,gB,aM hk,Sm.num];try exact bQ)
   ·(simp only[go_sem,hY,hZ,gA,gB,aM hk,Sm.num];try exact bQ)
  |cons a Sl=>
   obtain⟨hZ,g2,hY,g4⟩:=drop_cons j1
   have ha:a.x.size<1073741824:=by have:=Ar.bJ (List.mem_of_getElem? hZ);omega
   have IV:Io.length<4611686018427387904:=by omega
   have afL:(Io.length+1)*81≤aF:=by simp only[aF];omega
   have hxa:=fun s=>U7 ha s
   simp only[gv]at hxa
   obtain⟨at5,aiW,ax⟩:=a
   repeat' (first
 |simp only[go_sem,hY,hZ,gA,gB,afL]
 |(with_reducible refine CU (hxa _) ?_)
 | (with_reducible refine aB hQ ?_;exact aU))
   refine eQ 2 2 ?_ ?_ (IHa (Sl,Io.length+1,Io++ [⟨at5,aiW,ax⟩]) ⟨g2,by simp,by simp only[List.append_assoc,List.cons_append,List.nil_append];exact j3⟩ (Nat.lt_succ_self _))
   ·(simp only[go_sem,hY,hZ,gA,gB,aM IV];try exact bQ)
   ·(simp only[go_sem,hY,hZ,gA,gB,aM IV];try exact bQ)
theorem aci : ∀ N,aaQ true N:=by
 intro N
 induction N with
 |zero=>intro l hl;exact absurd hl (Nat.not_lt_zero _)
 |succ N ih=>
  intro l hl n hn s
  exact(Yv ih l hl n hn).pure (by simp[D.bN,D.ok,Tag.ok,mZ]) (by simp[D.bN,D.ok,Tag.ok,mZ]) s
theorem aiX {l:List Sm} {n:Nat} (h:n+Sm.aT l<1073741824) (s:St) :
 aA Tryz.prog lM [.slice .shared 13 (l.map bh), .int .i64 (n:Int), .bool true] s (.tuple [.slice .shared 13 ((Sm.fT true n l).1.map bh), .int .i64 ((Sm.fT true n l).2:Int)]) s:=
 aci _ l (Nat.lt_succ_self _) n h s
theorem Yw {p:Pg} (hp:p.size<1073741824):aA Tryz.prog rQ [.agg (bY p)] S0 (.agg (bY p.number)) S0:=by
 obtain⟨globals,procs⟩:=p
 simp only[Pg.size]at hp
 have hlen:procs.length<1073741824:=by have:=Pc.cu procs;omega
 have hcg:=fun g s=>yK (l:=globals) (by omega) g s
 unfold S0
 refine aA.go Gn rfl fun B Q hB hQ=>?_
 have⟨hY,hZ,gA,gB⟩:=bu
 repeat' (first
 |simp only[go_sem,hY,hZ,gA,gB]
 |(with_reducible refine CU (hcg _ _) ?_)
 |(with_reducible first|refine bq fun hc=>?_|refine br fun hc=>?_|refine bt (fun hc=>?_) fun hc=>?_)<;>(try simp only[hc,bs,↓reduceIte]at h)<;>try simp only[hc]
 |(with_reducible refine aB hQ ?_;exact aU))
 refine bn.xn 2 1 5 rfl rfl ?_
 simp only[go_sem,hY,hZ,gA,gB]
 refine cq 3 1 (bn.ind (ι:=List Pc×Nat×List Pc×Nat) (fun i=>procs.drop i.2.1=i.1∧i.2.1=i.2.2.1.length∧Pc.fT 0 procs=i.2.2.1++Pc.fT i.2.2.2 i.1∧i.2.2.2+Pc.aT i.1≤Pc.aT procs) (fun i=>i.1.length)
  (fun i=> [(2, .ptr 1 0),(3, .int .i64 (i.2.2.2:Int)),(4, .ptr 2 0),(13, .slice .shared 5 (procs.map cH)),(14, .int .i64 (procs.length:Int)),(15, .int .i64 (i.2.1:Int))])
  (fun i=>⟨[bY ⟨globals,procs⟩,bY F9,[.slice .shared 1 (globals.map encStr), .slice (.tok 0) 5 (i.2.2.1.map cH)]],[some i.2.1]⟩) ?_ (procs,0,[],0) ⟨rfl,rfl,rfl,by dsimp only;omega⟩)
 rintro⟨rest,k,acc,m⟩ ⟨h1,h2,h3,h4⟩ IH
 dsimp only at h1 h2 h3 h4
 subst h2
 cases rest with
 |nil=>
  have hY:=drop_nil h1
  simp only[Pc.fT,List.append_nil]at h3
  subst h3
  repeat' (first
 |simp only[go_sem,hY,hZ,gA,gB,Pg.number]
 |(with_reducible first|refine bq fun hc=>?_|refine br fun hc=>?_|refine bt (fun hc=>?_) fun hc=>?_)<;>(try simp only[hc,bs,↓reduceIte]at h)<;>try simp only[hc]
 |(with_reducible refine aB hQ ?_;simp only[cj,cr,dK,dL,go_sem,hY,hZ,gA,gB,Pg.number];try exact dM))
 |cons y rest=>
  obtain⟨hZ,g2,hY,g4⟩:=drop_cons h1
  simp only[Pc.aT]at h4
  have ew:=Pc.bJ (List.mem_of_getElem? hZ)
  obtain⟨name,params,vars,body,fin⟩:=y
  simp only[Pc.size]at ew h4
  have hk:acc.length<4611686018427387904:=by omega
  have gC:(acc.length+1)*113≤aF:=by simp only[aF];omega
  have c1:=fun g s=>Yu (l:=params) (by omega) g s
  have c2:=fun g s=>yK (l:=vars) (by omega) g s
  have c3:=fun g s=>yK (l:=fin) (by omega) g s
  have c4:=fun s=>aiX (l:=body) (n:=m) (by omega) s
  have b1:=Sm.wW true m body
  repeat' (first
 |simp only[go_sem,hY,hZ,gA,gB,gC]
 |(with_reducible refine CU (c1 _ _) ?_)
 |(with_reducible refine CU (c2 _ _) ?_)
 |(with_reducible refine CU (c3 _ _) ?_)
 |(with_reducible refine CU (c4 _) ?_)
 |(with_reducible refine aB hQ ?_;exact aU))
  refine eQ 3 1 ?_ ?_ (IH (rest,acc.length+1,acc++ [⟨name,params,vars,(Sm.fT true m body).1,fin⟩],(Sm.fT true m body).2) ⟨g2,by simp,by rw[h3];simp[Pc.fT],by dsimp only;omega⟩ (Nat.lt_succ_self _))
  ·(simp only[go_sem,hY,hZ,gA,gB,aM hk];try exact bQ)
  ·(simp only[go_sem,hY,hZ,gA,gB,aM hk];try exact bQ)
theorem Yx {p q:Pg} (h:p.DU=some q) (s:St):aA Tryz.prog rQ [.agg (bY p)] s (.agg (bY q)) s:=by
 unfold Pg.DU at h
 split at h
 ·cases h;exact(Yw ‹_›).pure (by simp[D.bN,D.ok,jP]) (by simp[D.ok,jP]) s
 ·cases h
def at6 (x:ay):List ay→Bool
 | []=>false
 |s::l=>if x==s then true else at6 x l
def EG (pre:List ay):List ay→Bool
 | []=>false
 |s::l=>if fM pre s then true else EG (pre++ [s]) l
def iG (l:List ay):Bool:=EG [] l
theorem U8 {l:List ay} {k:Nat} {a:ay} (h:l[k]? = some a):l.take (k+1)=l.take k++ [a]:=by rw[List.take_add_one,h];rfl
theorem Fx {l:List ay} (hl:l.length<4611686018427387904) (g:Tag) (s:St):aA Tryz.prog pB [.slice g 1 (l.map encStr)] s (.bool (iG l)) s:=by
 refine aA.UO (d':= .slice .shared 1 (l.map encStr)) ?_ (Wk.shared _ _ _)
 refine aA.pure ?_ (by simp[D.bN,D.ok,Tag.ok,fw]) rfl s
 generalize h:iG l=p
 simp only[iG]at h
 unfold S0
 refine aA.go Gl rfl fun B Q hB hQ=>?_
 have⟨hY,hZ,gA,gB⟩:=bu
 repeat' (first
 |simp only[go_sem,hY,hZ,gA,gB]
 |(with_reducible first|refine bq fun hc=>?_|refine br fun hc=>?_|refine bt (fun hc=>?_) fun hc=>?_)<;>(try simp only[hc,bs,↓reduceIte]at h)<;>try simp only[hc]
 |(with_reducible refine aB hQ ?_;exact eo))
 refine cq 0 0 (bn.ind (ι:=List ay×Nat) (fun i=>l.drop i.2=i.1∧EG (l.take i.2) i.1=p) (fun i=>i.1.length)
  (fun i=> [(0, .slice .shared 1 (l.map encStr)),(5, .slice .shared 1 (l.map encStr)),(6, .int .i64 (l.length:Int)),(7, .int .i64 (i.2:Int))]) (fun i=>⟨[],[]⟩) ?_ (l,0) ⟨rfl,h⟩)
 rintro⟨rest,k⟩ ⟨h1,h⟩ IH
 dsimp only at h1 h
 cases rest with
 |nil=>
  have hY:=drop_nil h1
  simp only[EG]at h
  repeat' (first
 |simp only[go_sem,hY,hZ,gA,gB]
 |(with_reducible first|refine bq fun hc=>?_|refine br fun hc=>?_|refine bt (fun hc=>?_) fun hc=>?_)<;>(try simp only[hc,bs,↓reduceIte]at h)<;>try simp only[hc]
 |(with_reducible refine aB hQ ?_;exact eo))
 |cons a rest=>
  obtain⟨hZ,g2,hY,g4⟩:=drop_cons h1
  have cd:k<4611686018427387904:=by omega
  simp only[EG]at h
  have hc:=kr (l:=l.take k) (by rw[List.length_take];omega) a
  have e1:List.drop 0 (List.take k (l.map encStr))=(l.take k).map encStr:=by simp[List.map_take]
  have c1:((0:Int)≤(k:Int))=True:=by simp
  have c2:((k:Int)≤(l.length:Int))=True:=by simp only[eq_iff_iff,iff_true];omega
  have e2:List.take k (l.map encStr)=(l.take k).map encStr:=by simp[List.map_take]
  repeat' (first
 |simp only[go_sem,hY,hZ,gA,gB,e1,e2,c1,c2,or_true,true_and,and_self,ite_self,Int.toNat_natCast,List.drop_zero]
 |(with_reducible refine CU (hc _ _) ?_)
 |(with_reducible first|refine bq fun hc=>?_|refine br fun hc=>?_|refine bt (fun hc=>?_) fun hc=>?_)<;>(try simp only[hc,bs,↓reduceIte]at h)<;>try simp only[hc]
 |(with_reducible refine aB hQ ?_;(try cases h);simp only[cj,cr,dK,dL,go_sem,hY,hZ,gA,gB,e1,e2,c1,c2,or_true,true_and,and_self,ite_self,Int.toNat_natCast,List.drop_zero];try exact dM))
  refine eQ 0 0 ?_ ?_ (IH (rest,k+1) ⟨g2,by dsimp only;rw[U8 (by assumption)];exact h⟩ (Nat.lt_succ_self _))
  ·(simp only[go_sem,hY,hZ,gA,gB,aM cd];try exact bQ)
  ·(simp only[go_sem,hY,hZ,gA,gB,aM cd];try exact bQ)
def GX (vars globals:List ay) (name:ay):List Pm→Int
 | []=>if fM vars name then 4 else if fM globals name then 1 else 0
 |a::l=>if a.name==name then(if a.ref then 3 else 2)else GX vars globals name l
def Pc.oi (p:Pg) (f:Pc) (name:ay):Int:=GX f.vars p.globals name f.params
theorem MA {p:Pg} {f:Pc} (hp:f.params.length<1000000000) (hv:f.vars.length<1000000000) (hg:p.globals.length<1000000000) (name:ay) (s:St):aA Tryz.prog xx [.agg (bY p), .agg (cH f), .str name] s (.int .i64 (f.oi p name)) s:=by
 refine aA.pure ?_ (by simp[D.bN,D.ok,jP,Bf]) rfl s
 have lW:=kr (l:=f.vars) (by omega) name
 have zZ:=kr (l:=p.globals) (by omega) name
 generalize h:f.oi p name=q
 simp only[Pc.oi]at h
 unfold S0
 refine aA.go H9 rfl fun B Q hB hQ=>?_
 have⟨hY,hZ,gA,gB⟩:=bu
 repeat' (first
 |simp only[go_sem,hY,hZ,gA,gB]
 |(with_reducible refine aB hQ ?_;exact aU))
 refine cq 2 0 (bn.ind (ι:=List Pm×Nat) (fun i=>f.params.drop i.2=i.1∧GX f.vars p.globals name i.1=q) (fun i=>i.1.length)
  (fun i=> [(2, .str name),(3, .ptr 0 0),(4, .ptr 1 0),(10, .slice .shared 2 (f.params.map fC)),(11, .int .i64 (f.params.length:Int)),(12, .int .i64 (i.2:Int))]) (fun i=>⟨[bY p,cH f],[]⟩) ?_ (f.params,0) ⟨rfl,h⟩)
 rintro⟨rest,k⟩ ⟨h1,h⟩ IH
 dsimp only at h1 h
 cases rest with
 | nil=>
  have hY:=drop_nil h1
  simp only[GX]at h
  rcases Bool.eq_false_or_eq_true (fM f.vars name)with b1|b1
  ·simp only [b1,if_true]at h
   subst h
   repeat' (first
 |simp only[go_sem,hY,hZ,gA,gB,b1]
 |(with_reducible refine CU (lW _ _) ?_)
 |(with_reducible refine CU (zZ _ _) ?_)
 | (with_reducible refine aB hQ ?_;exact aU))
  ·simp only [b1,Bool.false_eq_true,if_false]at h
   rcases Bool.eq_false_or_eq_true (fM p.globals name)with b2|b2
   ·simp only [b2,if_true]at h
    subst h
    repeat' (first
 |simp only[go_sem,hY,hZ,gA,gB,b1,b2]
 |(with_reducible refine CU (lW _ _) ?_)
 |(with_reducible refine CU (zZ _ _) ?_)
 | (with_reducible refine aB hQ ?_;exact aU))
   ·simp only [b2,Bool.false_eq_true,if_false]at h
    subst h
    repeat' (first
 |simp only[go_sem,hY,hZ,gA,gB,b1,b2]
 |(with_reducible refine CU (lW _ _) ?_)
 |(with_reducible refine CU (zZ _ _) ?_)
 |(with_reducible refine aB hQ ?_;exact aU))
 | cons a rest=>
  obtain⟨hZ,g2,hY,g4⟩:=drop_cons h1
  have cd:k<4611686018427387904:=by omega
  simp only[GX]at h
  rcases Bool.eq_false_or_eq_true (a.name==name)with b1|b1
  ·simp only [b1,if_true]at h
   rcases Bool.eq_false_or_eq_true a.ref with b2|b2
   ·simp only [b2,if_true]at h
    subst h
    repeat' (first
 |simp only[go_sem,hY,hZ,gA,gB,b1,b2]
 | (with_reducible refine aB hQ ?_;exact aU))
   ·simp only [b2,Bool.false_eq_true,if_false]at h
    subst h
    repeat' (first
 |simp only[go_sem,hY,hZ,gA,gB,b1,b2]
 | (with_reducible refine aB hQ ?_;exact aU))
  ·simp only [b1,Bool.false_eq_true,if_false]at h
   repeat' (first
 |simp only[go_sem,hY,hZ,gA,gB,b1]
 | (with_reducible refine aB hQ ?_;exact aU))
   refine eQ 2 0 ?_ ?_ (IH (rest,k+1) ⟨g2,h⟩ (Nat.lt_succ_self _))
   ·(simp only[go_sem,hY,hZ,gA,gB,aM cd];try exact bQ)
   ·(simp only[go_sem,hY,hZ,gA,gB,aM cd];try exact bQ)
def mg (name:ay):List Pc→Option Pc
 | []=>none
 |f::l=>if f.name==name then some f else mg name l
def Pg.find (p:Pg) (name:ay):Option Pc:=mg name p.procs
def pc0:Pc:=⟨[],[],[],[],[]⟩
def auN (r:Option Pc):D:= .tuple [.agg (cH (r.getD pc0)), .bool r.isSome]
def Pc.GY (f:Pc):List ay:=f.params.map (·.name)
def Pc.own (f:Pc):List ay:=f.GY++f.vars
theorem aiY {f:Pc} (hp:f.params.length<1000000) (hv:f.vars.length<1000000) (s:St):aA Tryz.prog zt [.agg (cH f)] s (.slice .shared 1 (f.own.map encStr)) s:=by
 refine aA.pure ?_ (by simp[D.bN,D.ok,Bf]) (by simp only[D.ok,Tag.ok,fw];rfl) s
 generalize hR:f.own=R
 simp only[Pc.own]at hR
 unfold S0
 refine aA.go J3 rfl fun B Q hB hQ=>?_
 have⟨hY,hZ,gA,gB⟩:=bu
 repeat' (first
 |simp only[go_sem,hY,hZ,gA,gB]
 |(with_reducible refine aB hQ ?_;exact aU))
 refine bn.oZ 3 1 rfl ?_
 simp only[go_sem,hY,hZ,gA,gB]
 refine cq 1 1 (bn.ind (ι:=List Pm×Nat×List ay×Nat) (fun i=>f.params.drop i.2.1=i.1∧i.2.2.1++i.1.map (·.name)=f.GY∧i.2.2.2=i.2.2.1.length) (fun i=>i.1.length)
  (fun i=> [(1, .ptr 0 0),(3, .slice (.tok 0) 1 (i.2.2.1.map encStr)),(7, .slice .shared 2 (f.params.map fC)),(8, .int .i64 (f.params.length:Int)),(9, .int .i64 (i.2.1:Int))]) (fun i=>⟨[cH f],[some i.2.2.2]⟩) ?_ (f.params,0,[],0) ⟨rfl,rfl,rfl⟩)
 rintro⟨rest,k,out,n⟩ ⟨h1,h2,h3⟩ IH
 dsimp only at h1 h2 h3
 subst h3
 have hlo:out.length+rest.length<1000000:=by
  have:=congrArg List.length h2
  simp only[List.length_append,List.length_map,Pc.GY]at this
  omega
 cases rest with
 |nil=>
  have hY:=drop_nil h1
  simp only[List.map_nil,List.append_nil]at h2
  subst hR
  rw[← h2]at hQ
  have hO:=lP (l:=out) (nx:=f.vars) rfl (by omega) (g:= .shared)
  repeat' (first
 |simp only[go_sem,hY,hZ,gA,gB,hO]
 |(with_reducible refine aB hQ ?_;exact aU))
 |cons a rest=>
  obtain⟨hZ,g2,hY,g4⟩:=drop_cons h1
  have cd:k<4611686018427387904:=by omega
  have gA:(out.length+1)*17≤aF:=by unfold aF;omega
  repeat' (first
 |simp only[go_sem,hY,hZ,gA,gB]
 |(with_reducible refine aB hQ ?_;exact aU))
  refine eQ 1 1 ?_ ?_ (IH (rest,k+1,out++ [a.name],out.length+1) ⟨g2,by rw[← h2];simp,by simp⟩ (Nat.lt_succ_self _))
  ·(simp only[go_sem,hY,hZ,gA,gB,aM cd,List.map_append,List.map_cons,List.map_nil,encStr];try exact bQ)
  ·(simp only[go_sem,hY,hZ,gA,gB,aM cd,List.map_append,List.map_cons,List.map_nil,encStr];try exact bQ)
def ti:ay:= [109,97,105,110]
def Sm.known (p:Pg) (f:Pc) (procs:List ay) (v:Sm):Bool:=
 !(v.said.any fun n=>f.oi p n==0) && (v.kind != 4 ||(v.proc != ti && fM procs v.proc))
structure Pc.Small (p:Pg) (f:Pc):Prop where
 par:f.params.length<1000000
 vars:f.vars.length<1000000
 Ii:p.globals.length<1000000
def D0 (p:Pg) (f:Pc):List ay→Bool
 | []=>true
 |n::l=>if f.oi p n==0 then false else D0 p f l
theorem Jj (p:Pg) (f:Pc) : ∀ l,D0 p f l = !(l.any fun n=>f.oi p n==0)
 | []=>rfl
 |n::l=>by
  simp only[D0,List.any_cons,Jj p f l]
  cases (f.oi p n==0)<;>simp
theorem MB (v:Sm) (h:v.rI):v.said.length<3000000:=by
 have : ∀ (l:List Ar) (out:List ay),(Ar.said out l).length≤out.length+2*Ar.aT l:=by
  intro l
  induction l with
  |nil=>intro out;simp[Ar.said]
  |cons a l ih=>
   intro out
   simp only[Ar.said,Ar.aT]
   refine Nat.le_trans (ih _) ?_
   have:=mr a.x
   have:1≤a.x.size:=by obtain⟨_,_,_,_⟩:=a.x;simp[Ex.size]
   simp only[List.length_append]
   split<;>simp<;>omega
 have h1:=this v.args (v.wL++v.x.names)
 have h2:=mr v.x
 have h3:=h.2.2
 have h4:v.wL.length≤1:=by unfold Sm.wL;split<;>simp
 simp only[List.length_append]at h1
 unfold Sm.said
 omega
theorem acj {p:Pg} {f:Pc} {procs:List ay} {v:Sm} (hs:f.Small p) (Cd:procs.length<1000000) (hv:v.rI) (s:St):aA Tryz.prog rP [.agg (bY p), .agg (cH f), .slice .shared 1 (procs.map encStr), .agg (bh v)] s (.bool (v.known p f procs)) s:=by
 refine aA.pure ?_ (by simp[D.bN,D.ok,jP,Bf,np,Tag.ok,fw]) rfl s
 have hn:=fun s=>Dg hv s
 have hk:=fun n s=>MA (p:=p) (f:=f) (by have:=hs.par;omega) (by have:=hs.vars;omega) (by have:=hs.Ii;omega) n s
 have afM:=kr (l:=procs) (by omega) v.proc
 have hl:=MB v hv
 generalize h:v.known p f procs=q
 simp only[Sm.known, ← Jj]at h
 unfold S0
 refine aA.go Gm rfl fun B Q hB hQ=>?_
 have⟨hY,hZ,gA,gB⟩:=bu
 repeat' (first
 |simp only[go_sem,hY,hZ,gA,gB]
 |(with_reducible refine CU (hn _) ?_)
 |(with_reducible refine aB hQ ?_;exact aU))
 refine cq 3 0 (bn.ind (ι:=List ay×Nat) (fun i=>v.said.drop i.2=i.1∧(D0 p f i.1 && (v.kind != 4 ||(v.proc != ti && fM procs v.proc)))=q) (fun i=>i.1.length)
  (fun i=> [(2, .slice .shared 1 (procs.map encStr)),(4, .ptr 0 0),(5, .ptr 1 0),(7, .ptr 2 0),(12, .slice .shared 1 (v.said.map encStr)),(13, .int .i64 (v.said.length:Int)),(14, .int .i64 (i.2:Int))]) (fun i=>⟨[bY p,cH f,bh v],[]⟩) ?_ (v.said,0) ⟨rfl,h⟩)
 rintro⟨rest,k⟩ ⟨h1,h⟩ IH
 dsimp only at h1 h
 cases rest with
 | nil=>
  have hY:=drop_nil h1
  simp only[D0,Bool.true_and]at h
  rcases Bool.eq_false_or_eq_true (v.kind != 4)with b1|b1
  ·simp only [b1,Bool.true_or]at h
   subst h
   repeat' (first
 |simp only[go_sem,hY,hZ,gA,gB,b1]
 | (with_reducible refine aB hQ ?_;exact aU))
  ·simp only [b1,Bool.false_or]at h
   rcases Bool.eq_false_or_eq_true (v.proc != ti)with b2|b2
   ·simp only [b2,Bool.true_and]at h
    unfold ti at b2
    have b3:(v.proc == [109,97,105,110]) = !(v.proc != [109,97,105,110]):=by simp only[bne,Bool.not_not]
    rw[b2]at b3
    simp only[Bool.not_true,Bool.not_false]at b3
    subst h
    repeat' (first
 |simp only[go_sem,hY,hZ,gA,gB,b1,b2,b3]
 |(with_reducible refine CU (afM _ _) ?_)
 | (with_reducible refine aB hQ ?_;exact aU))
   ·simp only [b2,Bool.false_and]at h
    unfold ti at b2
    have b3:(v.proc == [109,97,105,110]) = !(v.proc != [109,97,105,110]):=by simp only[bne,Bool.not_not]
    rw[b2]at b3
    simp only[Bool.not_true,Bool.not_false]at b3
    subst h
    repeat' (first
 |simp only[go_sem,hY,hZ,gA,gB,b1,b2,b3]
 |(with_reducible refine CU (afM _ _) ?_)
 |(with_reducible refine aB hQ ?_;exact aU))
 | cons a rest=>
  obtain⟨hZ,g2,hY,g4⟩:=drop_cons h1
  have cd:k<4611686018427387904:=by omega
  simp only[D0]at h
  rcases Bool.eq_false_or_eq_true (f.oi p a==0)with b1|b1
  ·simp only [b1,if_true,Bool.false_and]at h
   subst h
   repeat' (first
 |simp only[go_sem,hY,hZ,gA,gB,b1]
 |(with_reducible refine CU (hk _ _) ?_)
 | (with_reducible refine aB hQ ?_;exact aU))
  ·simp only [b1,Bool.false_eq_true,if_false]at h
   repeat' (first
 |simp only[go_sem,hY,hZ,gA,gB,b1]
 |(with_reducible refine CU (hk _ _) ?_)
 | (with_reducible refine aB hQ ?_;exact aU))
   refine eQ 3 0 ?_ ?_ (IH (rest,k+1) ⟨g2,h⟩ (Nat.lt_succ_self _))
   ·(simp only[go_sem,hY,hZ,gA,gB,aM cd];try exact bQ)
   ·(simp only[go_sem,hY,hZ,gA,gB,aM cd];try exact bQ)
theorem Pj : ∀ (l pre:List ay),EG pre l=true↔(∃ x∈l,x∈pre)∨¬ l.Nodup
 | [],pre=>by simp[EG]
 | s::l,pre=>by
  simp only[EG]
  by_cases h:fM pre s=true
  ·simp only [h,if_true,true_iff]
   exact .inl ⟨s,List.mem_cons_self,(kY _ _).1 h⟩
  ·have h':s∉pre:=fun m=>h ((kY _ _).2 m)
   simp only[h,if_false,Bool.false_eq_true]
   rw[Pj l (pre++ [s])]
   simp only[List.mem_append,List.mem_singleton,List.mem_cons,List.nodup_cons,exists_eq_or_imp]
   constructor
   ·rintro(⟨x,m,h1 | h1⟩ | h1)
    ·exact .inl (.inr ⟨x,m,h1⟩)
    ·have h1:x=s:=by simpa using h1
     subst h1;exact .inr fun h=>h.1 m
    ·exact .inr fun h=>h1 h.2
   ·rintro((h1 | ⟨x,m,h1⟩) | h1)
    ·exact absurd h1 h'
    ·exact .inl ⟨x,m, .inl h1⟩
    ·by_cases m:s∈l
     ·exact .inl ⟨s,m, .inr (.inl rfl)⟩
     ·exact .inr fun h=>h1 ⟨m,h⟩
theorem Jk (l:List ay):iG l=true↔¬ l.Nodup:=by
 unfold iG;rw[Pj];simp
theorem U9 (a b:List ay):iG (a++b)=(iG a ||(iG b ||b.any (fM a))):=by
 have h:iG (a++b)=true↔(iG a ||(iG b ||b.any (fM a)))=true:=by
  rw[Jk,List.nodup_append]
  simp only[Bool.or_eq_true,Jk,List.any_eq_true,kY]
  constructor
  ·intro h
   by_cases ha:a.Nodup
   ·by_cases hb:b.Nodup
    ·refine .inr (.inr (Classical.byContradiction fun hn=>h ⟨ha,hb,fun x hx y hy e=>hn ⟨y,hy,e ▸ hx⟩⟩))
    ·exact .inr (.inl hb)
   ·exact .inl ha
  ·rintro(h | h | ⟨x,h1,h2⟩) ⟨h3,h4,h5⟩
   ·exact h h3
   ·exact h h4
   ·exact h5 x h2 x h1 rfl
 cases h1:iG (a++b)<;>cases h2:(iG a ||(iG b ||b.any (fM a)))<;>simp_all
theorem MC (name:ay) : ∀ (l:List Pc) (k:Nat),(mg name l=none∧pT name (k:Int) (l.map (·.name)) = -1)∨∃ f j,mg name l=some f∧l[j]? = some f∧pT name (k:Int) (l.map (·.name))=((k+j:Nat):Int)
 | [],k=> .inl ⟨rfl,rfl⟩
 | f::l,k=>by
  by_cases h:f.name=name
  ·subst h
   refine .inr ⟨f,0,by simp[mg],rfl,by simp[pT]⟩
  ·have h1:(f.name==name)=false:=by simp [h]
   have h2:(name==f.name)=false:=by simp[Ne.symm h]
   simp only[mg,h1,Bool.false_eq_true,if_false,List.map_cons,pT,h2]
   rcases MC name l (k+1)with ⟨g1,g2⟩|⟨g,j,g1,g2,g3⟩
   ·exact .inl ⟨g1,by rw[← g2];rfl⟩
   ·refine .inr ⟨g,j+1,g1,by simpa using g2, ?_⟩
    rw[show((k:Int)+1)=((k+1:Nat):Int)from rfl,g3]
    congr 1;omega
theorem uj {name:ay} {f:Pc} : ∀ {l:List Pc},mg name l=some f→f∈l∧f.name=name
 |g::l,h=>by
  simp only[mg]at h
  split at h
  ·rename_i e;cases h;exact⟨List.mem_cons_self,by simpa using e⟩
  ·have:=uj h;exact⟨List.mem_cons_of_mem _ this.1,this.2⟩
mutual
theorem Va (deep aN:Int) (aL:Bool) (out:List It) : ∀ s:Sm,∃ e,iF deep aN aL out s=out++e
 | ⟨id,kind,labels,name,proc,x,has,args,aS,e⟩=>by
  simp only[iF]
  split
  ·obtain⟨e1,h1⟩:=vt (deep+1) id false (out++ [⟨⟨id,kind,labels,name,proc,x,has,args,aS,e⟩,deep,aN,aL⟩]) aS
   obtain⟨e2,h2⟩:=vt (deep+1) id true (dW (deep+1) id false (out++ [⟨⟨id,kind,labels,name,proc,x,has,args,aS,e⟩,deep,aN,aL⟩]) aS) e
   rw[h2,h1]
   exact⟨_,by rw[List.append_assoc,List.append_assoc]⟩
  ·exact⟨_,rfl⟩
theorem vt (deep aN:Int) (aL:Bool) (out:List It) : ∀ l:List Sm,∃ e,dW deep aN aL out l=out++e
 | []=>⟨[],by simp[dW]⟩
 | s::l=>by
  simp only[dW]
  split
  ·obtain⟨e1,h1⟩:=Va deep aN aL out s
   obtain⟨e2,h2⟩:=vt deep aN aL (iF deep aN aL out s) l
   rw[h2,h1]
   exact⟨_,by rw[List.append_assoc]⟩
  ·exact⟨[],by simp⟩
end
mutual
theorem Vb (deep aN:Int) (aL:Bool) (out:List It) : ∀ s:Sm,(iF deep aN aL out s).length≤200→(∀ i∈iF deep aN aL out s,i.deep≤12)→(iF deep aN aL out s).map It.s=out.map It.s++s.pre
 | ⟨id,kind,labels,name,proc,x,has,args,aS,e⟩,h1,h2=>by
  simp only[iF,Sm.pre]at h1 h2 ⊢
  by_cases hd:deep≤12
  ·simp only [hd,decide_true,if_true]at h1 h2 ⊢
   obtain⟨e2,g2⟩:=vt (deep+1) id true (dW (deep+1) id false (out++ [⟨⟨id,kind,labels,name,proc,x,has,args,aS,e⟩,deep,aN,aL⟩]) aS) e
   have k1:(dW (deep+1) id false (out++ [⟨⟨id,kind,labels,name,proc,x,has,args,aS,e⟩,deep,aN,aL⟩]) aS).length≤200:=by
    rw[g2,List.length_append]at h1;omega
   have k2 : ∀ i∈dW (deep+1) id false (out++ [⟨⟨id,kind,labels,name,proc,x,has,args,aS,e⟩,deep,aN,aL⟩]) aS,i.deep≤12:=fun i m=>h2 i (by rw[g2];exact List.mem_append_left _ m)
   rw[yL (deep+1) id true _ e h1 h2,yL (deep+1) id false _ aS k1 k2]
   simp
  ·simp only [hd,decide_false,Bool.false_eq_true,if_false]at h1 h2
   exact absurd (h2 _ (List.mem_append_right _ (List.mem_singleton.2 rfl))) (by simpa using hd)
theorem yL (deep aN:Int) (aL:Bool) (out:List It) : ∀ l:List Sm,(dW deep aN aL out l).length≤200→(∀ i∈dW deep aN aL out l,i.deep≤12)→(dW deep aN aL out l).map It.s=out.map It.s++Sm.eW l
 | [],h1,h2=>by simp[dW,Sm.eW]
 | s::l,h1,h2=>by
  simp only[dW,Sm.eW]at h1 h2 ⊢
  by_cases hc:(out.length:Int)≤200
  ·simp only [hc,decide_true,if_true]at h1 h2 ⊢
   obtain⟨e2,g2⟩:=vt deep aN aL (iF deep aN aL out s) l
   have k1:(iF deep aN aL out s).length≤200:=by rw[g2,List.length_append]at h1;omega
   have k2 : ∀ i∈iF deep aN aL out s,i.deep≤12:=fun i m=>h2 i (by rw[g2];exact List.mem_append_left _ m)
   rw[yL deep aN aL _ l h1 h2,Vb deep aN aL out s k1 k2]
   simp
  ·simp only [hc,decide_false,Bool.false_eq_true,if_false]at h1
   omega
end
theorem MD : ∀ (l:List Pc) (out:List It),(allM out l).length≤200→(∀ i∈allM out l,i.deep≤12)→(∀ f∈l,f.flat.map It.s=Sm.eW f.body)∧(allM out l).map It.s=out.map It.s++(l.map fun f=>Sm.eW f.body).flatten
 | [],out,h1,h2=>⟨fun f m=>(by cases m),by simp[allM]⟩
 | f::l,out,h1,h2=>by
  simp only[allM]at h1 h2 ⊢
  by_cases hc:(((out++f.flat).length:Nat):Int) > 200
  ·simp only[hc,decide_true,if_true]at h1;omega
  ·simp only [hc,decide_false,Bool.false_eq_true,if_false]at h1 h2 ⊢
   obtain⟨k1,k2⟩:=MD l (out++f.flat) h1 h2
   have zI : ∀ (l:List Pc) (out:List It),∃ e,allM out l=out++e:=by
    intro l
    induction l with
    |nil=>intro out;exact⟨[],by simp[allM]⟩
    |cons g l ih=>
     intro out
     simp only[allM]
     split
     ·exact⟨_,rfl⟩
     ·obtain⟨e,h⟩:=ih (out++g.flat);exact⟨g.flat++e,by rw[h];simp⟩
   obtain⟨e,he⟩:=zI l (out++f.flat)
   have k3:f.flat.map It.s=Sm.eW f.body:=by
    have:=yL 1 0 false [] f.body (by
     have:f.flat.length≤200:=by simp only[List.length_append]at hc;omega
     exact this) (fun i m=>h2 i (by rw[he];exact List.mem_append_left _ (List.mem_append_right _ m)))
    simpa[Pc.flat]using this
   refine⟨fun g m=>?_, ?_⟩
   ·rcases List.mem_cons.1 m with rfl | m
    ·exact k3
    ·exact k1 g m
   ·rw[k2];simp[k3]
theorem Dj : ∀ (l:List It) (n:Nat),It.e7 n l=true→(∀ i∈l,i.deep≤12)∧∀ (j:Nat) (i:It),l[j]? = some i→i.s.id=((n+j+1:Nat):Int)
 | [],n,h=>⟨fun i m=>(by cases m),fun j i h=>by simp at h⟩
 | a::l,n,h=>by
  simp only[It.e7]at h
  split at h
  ·cases h
  ·rename_i c
   simp only[Bool.or_eq_true,not_or,bne_iff_ne,ne_eq,Decidable.not_not,decide_eq_true_eq,Int.not_lt,gt_iff_lt]at c
   obtain⟨k1,k2⟩:=Dj l (n+1) h
   refine⟨fun i m=>?_,fun j i hj=>?_⟩
   ·rcases List.mem_cons.1 m with rfl | m
    ·exact c.1.2
    ·exact k1 i m
   ·cases j with
    |zero=>simp at hj;subst hj;rw[c.1.1]
    |succ j=>simp at hj;rw[k2 j i hj];congr 1;omega
theorem Pk {p:Pg} (h:p.may=true):p.all.length≤200∧It.e7 0 p.all=true:=by
 unfold Pg.may at h
 split at h
 ·cases h
 ·split at h
  ·cases h
  ·split at h
   ·cases h
   ·rename_i c
    exact⟨by simp only[decide_eq_true_eq,Int.not_lt,gt_iff_lt]at c;omega,h⟩
theorem Yy {p:Pg} (h:p.may=true):(∀ f∈p.procs,f.flat.map It.s=Sm.eW f.body)∧p.all.map It.s=p.pre:=by
 obtain⟨h1,h2⟩:=Pk h
 have:=MD p.procs [] h1 (Dj _ 0 h2).1
 simpa[Pg.pre,Pg.all]using this
theorem afN {p:Pg} (h:p.may=true) {i:Nat} {v:Sm} (hv:p.pre[i]? = some v):v.id=((i+1:Nat):Int):=by
 rw[← (Yy h).2,List.getElem?_map,Option.map_eq_some_iff]at hv
 obtain⟨it,h1,rfl⟩:=hv
 have:=(Dj _ 0 (Pk h).2).2 i it h1
 rw[this];congr 1;omega
structure Pg.my (p:Pg):Prop where
 Yz:p.GM
 sz:p.size≤900000
mutual
theorem afO : ∀ s:Sm,s.uO→s.size<1000000→∀ v∈s.pre,v.rI∧v.kJ
 |⟨id,kind,labels,name,proc,x,has,args,aS,aL⟩,h,hs,v,m=>by
  simp only[Sm.uO]at h
  simp only[Sm.size]at hs
  simp only[Sm.pre,List.mem_cons,List.mem_append]at m
  rcases m with rfl|m|m
  ·exact⟨⟨h.1.xt,fun a ha=>(h.1.arg a ha).2.1,by dsimp only;omega⟩,h.1⟩
  ·exact D1 aS h.2.1 (by omega) v m
  ·exact D1 aL h.2.2 (by omega) v m
theorem D1 : ∀ l:List Sm,Sm.j8 l→Sm.aT l<1000000→∀ v∈Sm.eW l,v.rI∧v.kJ
 | [],h,hs,v,m=>by simp[Sm.eW]at m
 |s::l,h,hs,v,m=>by
  simp only[Sm.j8]at h
  simp only[Sm.aT]at hs
  simp only[Sm.eW,List.mem_append]at m
  rcases m with m|m
  ·exact afO s h.1 (by omega) v m
  ·exact D1 l h.2 (by omega) v m
end
theorem Pg.my.said {p:Pg} (h:p.my) {f:Pc} (hf:f∈p.procs) : ∀ v∈Sm.eW f.body,v.rI:=fun v m=>by
 have h1:=Pc.bJ hf
 have h2:=h.sz
 simp only[Pg.size]at h2
 simp only[Pc.size]at h1
 exact(D1 f.body (h.Yz.body f hf) (by omega) v m).1
theorem Pg.my.small {p:Pg} (h:p.my) {f:Pc} (hf:f∈p.procs):f.Small p:=by
 have h1:=Pc.bJ hf
 have h2:=h.sz
 simp only[Pg.size]at h2
 simp only[Pc.size]at h1
 exact⟨by omega,by omega,by omega⟩
theorem Pg.my.procs {p:Pg} (h:p.my):p.procs.length≤900000∧Pc.aT p.procs≤900000∧p.globals.length≤900000:=by
 have h2:=h.sz
 have h3:=Pc.cu p.procs
 simp only[Pg.size]at h2
 omega
def Pg.pn (p:Pg):List ay:=p.procs.map (·.name)
def Dk (p:Pg) (f:Pc) (procs:List ay):List Sm→Option Sm
 | []=>none
 |v::l=>if v.known p f procs then Dk p f procs l else some v
def xR (p:Pg) (procs:List ay):List Pc→Int×Int
 | []=>(0,0)
 |f::l=>if iG (p.globals++f.own)then(5,0)else match Dk p f procs (Sm.eW f.body)with|some v=>(5,v.id)|none=>xR p procs l
def Pg.Ay (p:Pg):Bool:=match p.find ti with|none=>true|some m=>decide ((m.params.length:Int) > 0)
def Pg.scope (p:Pg):Int×Int:=
 if p.may then if iG p.globals ||(iG p.pn ||p.Ay)then(5,0)else xR p p.pn p.procs else(1,0)
theorem YA (p:Pg) (hl:p.globals.length<1000000) (n:ay):aA Tryz.prog p6 ([.str n]++ [.ptr 0 0]) ⟨[bY p],[]⟩ (.bool (fM p.globals n)) ⟨[bY p],[]⟩:=by
 show aA Tryz.prog p6 [.str n, .ptr 0 0] _ _ _
 have v7:=kr (l:=p.globals) (by omega) n
 refine aA.go Ed rfl fun B Q hB hQ=>?_
 have⟨hY,hZ,gA,gB⟩:=bu
 repeat' (first
 |simp only[go_sem,hY,hZ,gA,gB]
 |(with_reducible refine CU (v7 _ _) ?_)
 |(with_reducible refine aB hQ ?_;exact aU))
theorem aiZ (n m:Nat) (p:Pg):D.je n m (jo p)=jo p:=jx n m _ (Bs p)
attribute [go_sem] aiZ
theorem ack {p:Pg} {f:Pc} {procs:List ay} {v:Sm} (hs:f.Small p) (Cd:procs.length<1000000) (hv:v.rI) (g:Tag) (s:St):aA Tryz.prog rP [.agg (bY p), .agg (cH f), .slice g 1 (procs.map encStr), .agg (bh v)] s (.bool (v.known p f procs)) s:=
 fh.CR (.cons (Wk.refl _) (.cons (Wk.refl _) (.cons (Wk.shared g 1 _) (oo.refl _)))) (acj hs Cd hv s)
theorem xS {p:Pg} (h:p.my) (s:St):aA Tryz.prog nr [.agg (bY p)] s (.agg [.int .i64 p.scope.1, .int .i64 p.scope.2]) s:=by
 refine aA.pure ?_ (by simp[D.bN,D.ok,jP]) rfl s
 have hm:=fun s=>UY h.Yz s
 simp only[ui]at hm
 obtain⟨sI,q7,wk⟩:=h.procs
 have eK:=fun s=>GC (p:=p) (by omega) s
 have q6:=fun s=>Fx (l:=p.globals) (by omega) .shared s
 have hpn:p.pn.length=p.procs.length:=by simp[Pg.pn]
 have FZ:=fun g s=>Fx (l:=p.pn) (by omega) g s
 have hix:=fun g s=>(Pb (l:=p.pn) (by omega) ti s).UO (Wk.shared g 1 (p.pn.map encStr))
 have Fy:=fun g s=>(show aA Tryz.prog jZ [.slice g 1 (p.pn.map encStr), .str [109,97,105,110]] s (.int .i64 (pT ti 0 p.pn)) s from hix g s)
 generalize hR:p.scope=R
 simp only[Pg.scope]at hR
 unfold S0
 rcases Bool.eq_false_or_eq_true p.may with hb|hb
 case inr=>
  simp only[hb]at hm
  simp only[hb,Bool.false_eq_true,if_false]at hR
  subst hR
  refine aA.go yy rfl fun B Q hB hQ=>?_
  have⟨hY,hZ,gA,gB⟩:=bu
  repeat' (first
 |simp only[go_sem,hY,hZ,gA,gB]
 |(with_reducible refine CU (hm _) ?_)
 |(with_reducible refine aB hQ ?_;exact aU))
 simp only[hb]at hm
 simp only[hb,if_true]at hR
 refine aA.go yy rfl fun B Q hB hQ=>?_
 have⟨hY,hZ,gA,gB⟩:=bu
 repeat' (first
 |simp only[go_sem,hY,hZ,gA,gB]
 |(with_reducible refine CU (hm _) ?_)
 |(with_reducible refine aB hQ ?_;exact aU))
 refine bn.oZ 3 1 rfl ?_
 simp only[go_sem,hY,hZ,gA,gB]
 refine cq 2 1 (bn.ind (ι:=List Pc×Nat×List ay×Nat) (fun i=>p.procs.drop i.2.1=i.1∧i.2.2.1++i.1.map (·.name)=p.pn∧i.2.2.2=i.2.2.1.length) (fun i=>i.1.length)
  (fun i=> [(1, .ptr 0 0),(2, .ptr 1 0),(3, .slice (.tok 0) 1 (i.2.2.1.map encStr)),(18, .slice .shared 5 (p.procs.map cH)),(19, .int .i64 (p.procs.length:Int)),(20, .int .i64 (i.2.1:Int))]) (fun i=>⟨[bY p,[.int .i64 0, .int .i64 0]],[some i.2.2.2]⟩) ?_ (p.procs,0,[],0) ⟨rfl,rfl,rfl⟩)
 rintro⟨rest,k,out,n⟩ ⟨h1,h2,h3⟩ IH
 dsimp only at h1 h2 h3
 subst h3
 have hlo:out.length+rest.length≤900000:=by
  have:=congrArg List.length h2
  simp only[List.length_append,List.length_map]at this
  omega
 cases rest with
 |cons a rest=>
  obtain⟨hZ,g2,hY,g4⟩:=drop_cons h1
  have cd:k<4611686018427387904:=by omega
  have gA:(out.length+1)*17≤aF:=by unfold aF;omega
  repeat' (first
 |simp only[go_sem,hY,hZ,gA,gB]
 |(with_reducible refine aB hQ ?_;exact aU))
  refine eQ 2 1 ?_ ?_ (IH (rest,k+1,out++ [a.name],out.length+1) ⟨g2,by rw[← h2];simp,by simp⟩ (Nat.lt_succ_self _))
  ·(simp only[go_sem,hY,hZ,gA,gB,aM cd,List.map_append,List.map_cons,List.map_nil,encStr];try exact bQ)
  ·(simp only[go_sem,hY,hZ,gA,gB,aM cd,List.map_append,List.map_cons,List.map_nil,encStr];try exact bQ)
 | nil=>
  have hY:=drop_nil h1
  simp only[List.map_nil,List.append_nil]at h2
  subst h2
  rcases Bool.eq_false_or_eq_true (iG p.globals)with b1|b1
  ·simp only [b1,Bool.true_or,if_true]at hR
   subst hR
   repeat' (first
 |simp only[go_sem,hY,hZ,gA,gB,b1]
 |(with_reducible refine CU (Fy _ _) ?_)
 |(with_reducible refine CU (q6 _) ?_)
 |(with_reducible refine CU (FZ _ _) ?_)
 | (with_reducible refine aB hQ ?_;exact aU))
  rcases Bool.eq_false_or_eq_true (iG p.pn)with b2|b2
  ·simp only [b1,b2,Bool.true_or,Bool.or_true,if_true]at hR
   subst hR
   repeat' (first
 |simp only[go_sem,hY,hZ,gA,gB,b1,b2]
 |(with_reducible refine CU (Fy _ _) ?_)
 |(with_reducible refine CU (q6 _) ?_)
 |(with_reducible refine CU (FZ _ _) ?_)
 | (with_reducible refine aB hQ ?_;exact aU))
  rcases MC ti p.procs 0 with ⟨e1,e2⟩|⟨m,j,e1,e2,e3⟩
  ·have b3:p.Ay=true:=by unfold Pg.Ay Pg.find;rw [e1]
   have hi:pT ti 0 p.pn = -1:=e2
   simp only[b1,b2,b3,Bool.or_true,if_true]at hR
   subst hR
   simp only[hi]at Fy
   have d1:decide ((-1:Int)<0)=true:=by decide
   repeat' (first
 |simp only[go_sem,hY,hZ,gA,gB,b1,b2,d1]
 |(with_reducible refine CU (Fy _ _) ?_)
 |(with_reducible refine CU (q6 _) ?_)
 |(with_reducible refine CU (FZ _ _) ?_)
 | (with_reducible refine aB hQ ?_;exact aU))
  have hi:pT ti 0 p.pn=((j:Nat):Int):=by rw[show p.pn=p.procs.map (·.name)from rfl];simpa using e3
  simp only[hi]at Fy
  have d1:decide (((j:Nat):Int)<0)=false:=by simp
  have hj:j<p.procs.length:=(List.getElem?_eq_some_iff.1 e2).1
  have b3:p.Ay=decide ((m.params.length:Int) > 0):=by unfold Pg.Ay Pg.find;rw[e1]
  rw[b3]at hR
  rcases Bool.eq_false_or_eq_true (decide ((m.params.length:Int) > 0))with b4|b4
  ·simp only [b1,b2,b4,Bool.or_true,if_true]at hR
   subst hR
   repeat' (first
 |simp only[go_sem,hY,hZ,gA,gB,b1,b2,d1,e2,b4]
 |(with_reducible refine CU (Fy _ _) ?_)
 |(with_reducible refine CU (q6 _) ?_)
 |(with_reducible refine CU (FZ _ _) ?_)
 |(with_reducible refine aB hQ ?_;exact aU))
  simp only[b1,b2,b4,Bool.or_false,Bool.false_eq_true,if_false]at hR
  repeat' (first
 |simp only[go_sem,hY,hZ,gA,gB,b1,b2,d1,e2,b4]
 |(with_reducible refine CU (Fy _ _) ?_)
 |(with_reducible refine CU (q6 _) ?_)
 |(with_reducible refine CU (FZ _ _) ?_)
 |(with_reducible refine CU (eK _) ?_)
 | (with_reducible refine aB hQ ?_;exact aU))
  refine cq 2 1 (bn.ind (ι:=List Pc×Nat) (fun i=>p.procs.drop i.2=i.1∧xR p p.pn i.1=R) (fun i=>i.1.length)
   (fun i=> [(1, .ptr 0 0),(2, .ptr 1 0),(3, .slice (.tok 0) 1 (p.pn.map encStr)),(7, .eJ (jo p) 0),(57, .slice .shared 5 (p.procs.map cH)),(58, .int .i64 (p.procs.length:Int)),(59, .int .i64 (i.2:Int))]) (fun i=>⟨[bY p,[.int .i64 0, .int .i64 0]],[some p.pn.length]⟩) ?_ (p.procs,0) ⟨rfl,hR⟩)
  clear IH h1 hY hR
  rintro⟨rest,k⟩ ⟨h1,hR⟩ IH
  dsimp only at h1 hR
  cases rest with
  |nil=>
   have hY:=drop_nil h1
   simp only[xR]at hR
   subst hR
   repeat' (first
 |simp only[go_sem,hY,hZ,gA,gB]
 | (with_reducible refine aB hQ ?_;exact aU))
  | cons f rest=>
   obtain⟨hZ,g2,hY,g4⟩:=drop_cons h1
   have cd:k<4611686018427387904:=by omega
   have yF:=List.mem_of_getElem? hZ
   have Jl:=h.small yF
   have Vc:=fun s=>aiY (f:=f) Jl.par Jl.vars s
   have rp:f.own.length<4611686018427387904:=by have h1:=Jl.par;have h2:=Jl.vars;unfold Pc.own Pc.GY;simp;omega
   have hto:=fun s=>Fx (l:=f.own) rp .shared s
   have EH:=fun {s:St} {o:Nat} (ho:s.az[o]? = some (bY p))=>Ax (l:=f.own) rp (f:=p6) (row:=bY p) (b:=fM p.globals) (jP p) (by with_unfolding_all rfl) (fun x _=>YA p Jl.Ii x) ho
   have YB:=fun {s:St} {o:Nat} (ho:s.az[o]? = some (bY p))=>(show aA Tryz.prog gJ [.slice .shared 1 (f.own.map encStr), .iK 63 [.ptr o 0]] s (.bool (f.own.any (fM p.globals))) s from EH ho)
   simp only[xR,U9,b1,Bool.false_or]at hR
   rcases Bool.eq_false_or_eq_true (iG f.own)with c1|c1
   ·simp only [c1,Bool.true_or,if_true]at hR
    subst hR
    repeat' (first
 |simp only[go_sem,hY,hZ,gA,gB,c1]
 |(with_reducible refine CU (Vc _) ?_)
 |(with_reducible refine CU (hto _) ?_)
 |(with_reducible refine CU (YB (by with_unfolding_all rfl)) ?_)
 | (with_reducible refine aB hQ ?_;exact aU))
   rcases Bool.eq_false_or_eq_true (f.own.any (fM p.globals))with c2|c2
   ·simp only [c1,c2,Bool.false_or,if_true]at hR
    subst hR
    repeat' (first
 |simp only[go_sem,hY,hZ,gA,gB,c1,c2]
 |(with_reducible refine CU (Vc _) ?_)
 |(with_reducible refine CU (hto _) ?_)
 |(with_reducible refine CU (YB (by with_unfolding_all rfl)) ?_)
 | (with_reducible refine aB hQ ?_;exact aU))
   simp only[c1,c2,Bool.or_self,Bool.false_eq_true,if_false]at hR
   obtain⟨it,wq,GZ⟩:=Yd hZ (by omega)
   rw[← wq]at hR
   have afQ:it.length≤900000:=by
    have e:=congrArg List.length wq
    have e2:=(sk p).2 k f hZ
    obtain⟨a,b,e',_,_,e3,e4⟩:=e2
    have e5:=sn p
    have e6:=congrArg List.length e3
    rw[e4]at e5
    simp only[List.length_map,List.length_append]at e e5 e6
    omega
   repeat' (first
 |simp only[go_sem,hY,hZ,gA,gB,c1,c2]
 |(with_reducible refine CU (Vc _) ?_)
 |(with_reducible refine CU (hto _) ?_)
 |(with_reducible refine CU (YB (by with_unfolding_all rfl)) ?_)
 |(with_reducible refine CU (GZ _) ?_)
 | (with_reducible refine aB hQ ?_;exact aU))
   obtain⟨q,hq⟩ : ∃ q,Dk p f p.pn (it.map Im.s)=q:=⟨_,rfl⟩
   rw[hq]at hR
   refine cq 3 1 (bn.ind (ι:=List Im×Nat) (fun i=>it.drop i.2=i.1∧Dk p f p.pn (i.1.map Im.s)=q) (fun i=>i.1.length)
    (fun i=> [(1, .ptr 0 0),(2, .ptr 1 0),(3, .slice (.tok 0) 1 (p.pn.map encStr)),(7, .eJ (jo p) 0),(9, .ptr 2 0),(57, .slice .shared 5 (p.procs.map cH)),(58, .int .i64 (p.procs.length:Int)),(59, .int .i64 (k:Int)),(76, .slice .shared 17 (it.map fD)),(77, .int .i64 (it.length:Int)),(78, .int .i64 (i.2:Int))]) (fun i=>⟨[bY p,[.int .i64 0, .int .i64 0],cH f],[some p.pn.length]⟩) ?_ (it,0) ⟨rfl,hq⟩)
   rintro⟨rM,n⟩ ⟨j1,j2⟩ IH'
   dsimp only at j1 j2
   have Eu:=hY
   cases rM with
   |nil=>
    have at7:=drop_nil j1
    simp only[List.map_nil,Dk]at j2
    subst j2
    simp only at hR
    repeat' (first
 |simp only[go_sem,hY,hZ,gA,gB,at7]
 | (with_reducible refine aB hQ ?_;exact aU))
    refine eQ 2 1 ?_ ?_ (IH (rest,k+1) ⟨g2,hR⟩ (Nat.lt_succ_self _))
    ·(simp only[go_sem,hY,hZ,gA,gB,aM cd];try exact bQ)
    ·(simp only[go_sem,hY,hZ,gA,gB,aM cd];try exact bQ)
   | cons i rM=>
    obtain⟨qA,Pl,Az,jg4⟩:=drop_cons j1
    have vn:n<4611686018427387904:=by omega
    have Jm:i.s∈Sm.eW f.body:=by rw[← wq];exact List.mem_map_of_mem (List.mem_of_getElem? qA)
    have hkn:=ack (v:=i.s) Jl (procs:=p.pn) (by omega) (h.said yF _ Jm)
    simp only[List.map_cons,Dk]at j2
    rcases Bool.eq_false_or_eq_true (i.s.known p f p.pn)with c3|c3
    ·simp only [c3,if_true]at j2
     repeat' (first
 |simp only[go_sem,hY,hZ,gA,gB,Az,qA,c3]
 |(with_reducible refine CU (hkn _ _) ?_)
 | (with_reducible refine aB hQ ?_;exact aU))
     refine eQ 3 1 ?_ ?_ (IH' (rM,n+1) ⟨Pl,j2⟩ (Nat.lt_succ_self _))
     ·(simp only[go_sem,hY,hZ,gA,gB,aM vn];try exact bQ)
     ·(simp only[go_sem,hY,hZ,gA,gB,aM vn];try exact bQ)
    ·simp only [c3,Bool.false_eq_true,if_false]at j2
     subst j2
     simp only at hR
     subst hR
     repeat' (first
 |simp only[go_sem,hY,hZ,gA,gB,Az,qA,c3]
 |(with_reducible refine CU (hkn _ _) ?_)
 |(with_reducible refine aB hQ ?_;exact aU))
end Go.Abs
namespace Go.Abs
mutual
def Ex.kG:Ex→Prop
 |⟨_,n,_,kids⟩=>n≤9223372036854775807∧Ex.pU kids
def Ex.pU:List Ex→Prop
 | []=>True
 |x::l=>x.kG∧Ex.pU l
end
mutual
def Sm.kG:Sm→Prop
 |⟨_,_,_,_,_,x,_,args,aS,aL⟩=>x.kG∧(∀ a∈args,a.x.kG)∧Sm.pU aS∧Sm.pU aL
def Sm.pU:List Sm→Prop
 | []=>True
 |s::l=>s.kG∧Sm.pU l
end
def Pg.kG (p:Pg):Prop:=∀ f∈p.procs,Sm.pU f.body
theorem Sm.Vd (s:Sm):s.kG↔s.x.kG∧(∀ a∈s.args,a.x.kG)∧Sm.pU s.aS∧Sm.pU s.aL:=by cases s;simp only[Sm.kG]
theorem Dl {f:Pc} : ∀ {l:List Pc} {n:Nat},Pc.dA n l=true→f∈l→(isName f.name=true∧dn f.vars=true∧dn f.fin=true∧Pm.e7 f.params=true)∧∃ n,(Sm.gF 1 n f.body).1=true
 |g::l,n,h,m=>by
  simp only[Pc.dA]at h
  split at h
  ·cases h
  rename_i c1
  split at h
  ·cases h
  rename_i c2
  split at h
  ·cases h
  rename_i c3
  simp only[Bool.or_eq_true,Bool.not_eq_true',not_or,Bool.not_eq_false]at c1 c2 c3
  rcases List.mem_cons.1 m with rfl|m
  ·exact⟨⟨c1.1.1.2,c1.1.2,c1.2,c2⟩,n,c3⟩
  ·exact Dl h m
mutual
theorem Sn : ∀ (s:Sm) (nest:Int) (n:Nat),(Sm.jU nest n s).1=true→s.size<4611686018427387000→s.uO
 |⟨id,kind,labels,name,proc,x,has,args,aS,aL⟩,nest,n,hm,hs=>by
  obtain⟨_,_,h1,h2,h3,_⟩:=mw hm
  rw[Fw]
  rw[(fP h2).2]at h2
  rw[(fP h3).2]at h3
  refine⟨Mw h1 hs,wM aS _ _ h2 ?_,wM aL _ _ h3 ?_⟩<;>simp only[Sm.size]at hs<;>omega
theorem wM : ∀ (l:List Sm) (nest:Int) (n:Nat),(Sm.dA nest n l).1=true→Sm.aT l<4611686018427387000→Sm.j8 l
 | [],_,_,_,_=>by simp only[Sm.j8]
 |s::l,nest,n,hm,hs=>by
  simp only[Sm.dA]at hm
  simp only[Sm.aT]at hs
  split at hm
  ·cases hm
  rename_i hc
  simp only[Bool.not_eq_true',Bool.not_eq_false]at hc
  exact⟨Sn s nest n hc (by omega),wM l nest _ hm (by omega)⟩
end
theorem Dm {p:Pg} (h:p.may=true) (hs:p.size<4611686018427387000):p.GM:=by
 have hf:=Yo h hs
 rw[← ui]at h
 unfold Pg.zH at h
 split at h
 ·cases h
 refine⟨hf.sz,hf.Ii,hf.nI,fun f m=>?_⟩
 obtain⟨_,n,e⟩:=Dl h m
 rw[(fP e).2]at e
 have:=Pc.bJ m
 simp only[Pg.size]at hs
 exact wM f.body 1 n e (by unfold Pc.size at this;omega)
mutual
theorem Sp {deep aN:Int} {aL:Bool} {out:List It} {i:It} : ∀ s:Sm,s.uO→i∈iF deep aN aL out s→i∈out∨i.s.kJ
 | ⟨id,kind,labels,name,proc,x,has,args,aS,e⟩,hf,h=>by
  simp only[iF]at h
  simp only[Sm.uO]at hf
  have key:i∈out++ [(⟨⟨id,kind,labels,name,proc,x,has,args,aS,e⟩,deep,aN,aL⟩:It)]→i∈out∨i.s.kJ:=by
   intro h
   rcases List.mem_append.1 h with h|h
   ·exact .inl h
   ·simp at h;subst h;exact .inr hf.1
  split at h
  ·rcases wN e hf.2.2 h with h | h
   ·rcases wN aS hf.2.1 h with h | h
    ·exact key h
    ·exact .inr h
   ·exact .inr h
  ·exact key h
theorem wN {deep aN:Int} {aL:Bool} {out:List It} {i:It} : ∀ l:List Sm,Sm.j8 l→i∈dW deep aN aL out l→i∈out∨i.s.kJ
 | [],_,h=>by simp only[dW]at h;exact .inl h
 | s::l,hf,h=>by
  simp only[dW]at h
  simp only[Sm.j8]at hf
  split at h
  ·rcases wN l hf.2 h with h | h
   ·exact Sp s hf.1 h
   ·exact .inr h
  ·exact .inl h
end
theorem Jn {i:It} : ∀ (l:List Pc) (out:List It),(∀ f∈l,Sm.j8 f.body)→i∈allM out l→i∈out∨i.s.kJ
 | [],out,_,h=>by simp only[allM]at h;exact .inl h
 | f::l,out,hf,h=>by
  have key:i∈out++f.flat→i∈out∨i.s.kJ:=by
   intro h
   rcases List.mem_append.1 h with h|h
   ·exact .inl h
   ·rcases wN _ (hf f (List.mem_cons_self ..)) h with h | h
    ·simp at h
    ·exact .inr h
  simp only[allM]at h
  split at h
  ·exact key h
  ·rcases Jn l _ (fun g m=>hf g (List.mem_cons_of_mem _ m)) h with h | h
   ·exact key h
   ·exact .inr h
theorem Sq {p:Pg} (h:p.GM):p.kJ:=⟨h.sz,h.Ii,h.nI,fun i hi=>(Jn p.procs [] h.body hi).resolve_left (by simp)⟩
set_option maxRecDepth 8000
open Go.Proofs
theorem YC (x:It):(fN x)[1]? = some (.int .i64 x.s.kind):=nd rfl
theorem YD (x:It):(fN x)[3]? = some (.str x.s.name):=nd rfl
theorem YE (x:It):(fN x)[4]? = some (.str x.s.proc):=nd rfl
theorem acm (x:It):List.take 16 (fN x)=fN x:=nd rfl
attribute [go_sem] YC YD YE acm
end Go.Abs
namespace Go.Abs
set_option maxRecDepth 8000
open Go.Proofs
def G0:List Pm→List Ar→Bool
 | [],_=>true
 |_,[]=>true
 |a::l,b::m=>if a.ref==b.ref then G0 l m else false
def G1 (l:List Pm) (m:List Ar):Bool:=if(l.length:Int)==(m.length:Int)then G0 l m else false
def Sm.uP (p:Pg) (v:Sm):Bool:=v.kind==4 && match p.find v.proc with|none=>false|some q=>G1 q.params v.args
theorem afS {l:List Pm} {m:List Ar} (hl:l.length<1000000000) (hm:m.length<1000000000) (s:St):aA Tryz.prog xy [.slice .shared 2 (l.map fC), .slice .shared 6 (m.map fb)] s (.bool (G1 l m)) s:=by
 refine aA.pure ?_ (by simp[D.bN,D.ok,Tag.ok,RN,Ky]) rfl s
 generalize h:G1 l m=q
 simp only[G1]at h
 unfold S0
 have b0:((l.length:Int) != (m.length:Int)) = !((l.length:Int)==(m.length:Int)):=rfl
 rcases Bool.eq_false_or_eq_true ((l.length:Int)==(m.length:Int))with b1|b1
 case inr=>
  rw[b1]at b0
  simp only[b1,Bool.false_eq_true,if_false]at h
  subst h
  refine aA.go Al rfl fun B Q hB hQ=>?_
  have⟨hY,hZ,gA,gB⟩:=bu
  repeat' (first
 |simp only[go_sem,hY,hZ,gA,gB,b0,Bool.not_false]
 |(with_reducible refine aB hQ ?_;exact aU))
 rw[b1]at b0
 simp only[b1,if_true]at h
 have hlm:l.length=m.length:=by have:=eq_of_beq b1;omega
 refine aA.go Al rfl fun B Q hB hQ=>?_
 have⟨hY,hZ,gA,gB⟩:=bu
 repeat' (first
 |simp only[go_sem,hY,hZ,gA,gB,b0,Bool.not_true]
 |(with_reducible refine aB hQ ?_;exact aU))
 refine cq 0 0 (bn.ind (ι:=List Pm×List Ar×Nat) (fun i=>l.drop i.2.2=i.1∧m.drop i.2.2=i.2.1∧G0 i.1 i.2.1=q) (fun i=>i.1.length)
  (fun i=> [(1, .slice .shared 6 (m.map fb)),(12, .slice .shared 2 (l.map fC)),(13, .int .i64 (l.length:Int)),(14, .int .i64 (i.2.2:Int))]) (fun i=>⟨[],[]⟩) ?_ (l,m,0) ⟨rfl,rfl,h⟩)
 rintro⟨r1,r2,k⟩ ⟨h1,h2,h⟩ IH
 dsimp only at h1 h2 h
 cases r1 with
 |nil=>
  have hY:=drop_nil h1
  simp only[G0]at h
  subst h
  repeat' (first
 |simp only[go_sem,hY,hZ,gA,gB]
 |(with_reducible refine aB hQ ?_;exact aU))
 | cons a r1=>
  obtain⟨hZ,g2,hY,g4⟩:=drop_cons h1
  cases r2 with
  |nil=>have:=List.drop_eq_nil_iff.1 h2;omega
  | cons b r2=>
   obtain⟨oR,b2,Sr,_⟩:=drop_cons h2
   have cd:k<4611686018427387904:=by omega
   simp only[G0]at h
   have w1:(true==true)=true:=rfl
   have w2:(false==false)=true:=rfl
   have w3:(true==false)=false:=rfl
   have w4:(false==true)=false:=rfl
   have v1:(true != true)=false:=rfl
   have v2:(false != false)=false:=rfl
   have v3:(true != false)=true:=rfl
   have v4:(false != true)=true:=rfl
   rcases Bool.eq_false_or_eq_true a.ref with ea|ea
   ·rcases Bool.eq_false_or_eq_true b.ref with eb | eb
    ·simp only [ea,eb,w1,w2,if_true]at h
     repeat' (first
 |simp only[go_sem,hY,hZ,gA,gB,oR,Sr,ea,eb,w1,w2,v1,v2]
 | (with_reducible refine aB hQ ?_;exact aU))
     refine eQ 0 0 ?_ ?_ (IH (r1,r2,k+1) ⟨g2,b2,h⟩ (Nat.lt_succ_self _))
     ·(simp only[go_sem,hY,hZ,gA,gB,aM cd];try exact bQ)
     ·(simp only[go_sem,hY,hZ,gA,gB,aM cd];try exact bQ)
    ·simp only [ea,eb,w3,w4,Bool.false_eq_true,if_false]at h
     subst h
     repeat' (first
 |simp only[go_sem,hY,hZ,gA,gB,oR,Sr,ea,eb,w3,w4,v3,v4]
 | (with_reducible refine aB hQ ?_;exact aU))
   ·rcases Bool.eq_false_or_eq_true b.ref with eb | eb
    ·simp only [ea,eb,w3,w4,Bool.false_eq_true,if_false]at h
     subst h
     repeat' (first
 |simp only[go_sem,hY,hZ,gA,gB,oR,Sr,ea,eb,w3,w4,v3,v4]
 | (with_reducible refine aB hQ ?_;exact aU))
    ·simp only [ea,eb,w1,w2,if_true]at h
     repeat' (first
 |simp only[go_sem,hY,hZ,gA,gB,oR,Sr,ea,eb,w1,w2,v1,v2]
 |(with_reducible refine aB hQ ?_;exact aU))
     refine eQ 0 0 ?_ ?_ (IH (r1,r2,k+1) ⟨g2,b2,h⟩ (Nat.lt_succ_self _))
     ·(simp only[go_sem,hY,hZ,gA,gB,aM cd];try exact bQ)
     ·(simp only[go_sem,hY,hZ,gA,gB,aM cd];try exact bQ)
theorem afT {p:Pg} {v:Sm} (h:p.my) (hv:v.rI) (s:St):aA Tryz.prog xv [.agg (bY p), .agg (bh v)] s (.bool (v.uP p)) s:=by
 refine aA.pure ?_ (by simp[D.bN,D.ok,jP,np]) rfl s
 obtain⟨sI,q7,wk⟩:=h.procs
 have ry:v.args.length<1000000000:=by have:=Ar.cu v.args;have:=hv.2.2;omega
 generalize hR:v.uP p=R
 simp only[Sm.uP]at hR
 unfold S0
 have b0:(v.kind != 4) = !(v.kind==4):=rfl
 rcases Bool.eq_false_or_eq_true (v.kind==4)with b1|b1
 case inr=>
  rw[b1]at b0
  simp only[b1,Bool.false_and]at hR
  subst hR
  refine aA.go Ad rfl fun B Q hB hQ=>?_
  have⟨hY,hZ,gA,gB⟩:=bu
  repeat' (first
 |simp only[go_sem,hY,hZ,gA,gB,b0,Bool.not_false]
 |(with_reducible refine aB hQ ?_;exact aU))
 rw[b1]at b0
 simp only[b1,Bool.true_and,Pg.find]at hR
 refine aA.go Ad rfl fun B Q hB hQ=>?_
 have⟨hY,hZ,gA,gB⟩:=bu
 repeat' (first
 |simp only[go_sem,hY,hZ,gA,gB,b0,Bool.not_true]
 |(with_reducible refine aB hQ ?_;exact aU))
 refine cq 2 0 (bn.ind (ι:=List Pc×Nat) (fun i=>p.procs.drop i.2=i.1∧(match mg v.proc i.1 with|none=>false|some q=>G1 q.params v.args)=R) (fun i=>i.1.length)
  (fun i=> [(3, .ptr 1 0),(11, .slice .shared 5 (p.procs.map cH)),(12, .int .i64 (p.procs.length:Int)),(13, .int .i64 (i.2:Int))]) (fun i=>⟨[bY p,bh v],[]⟩) ?_ (p.procs,0) ⟨rfl,hR⟩)
 clear hR
 rintro⟨rest,k⟩ ⟨h1,hR⟩ IH
 dsimp only at h1 hR
 cases rest with
 |nil=>
  have hY:=drop_nil h1
  simp only[mg]at hR
  subst hR
  repeat' (first
 |simp only[go_sem,hY,hZ,gA,gB]
 |(with_reducible refine aB hQ ?_;exact aU))
 | cons a rest=>
  obtain⟨hZ,g2,hY,g4⟩:=drop_cons h1
  have cd:k<4611686018427387904:=by omega
  have Jl:=h.small (List.mem_of_getElem? hZ)
  have hsa:=fun s=>afS (l:=a.params) (m:=v.args) (by have:=Jl.par;omega) ry s
  simp only[mg]at hR
  rcases Bool.eq_false_or_eq_true (a.name==v.proc)with c1|c1
  ·simp only [c1,if_true]at hR
   subst hR
   repeat' (first
 |simp only[go_sem,hY,hZ,gA,gB,c1]
 |(with_reducible refine CU (hsa _) ?_)
 | (with_reducible refine aB hQ ?_;exact aU))
  ·simp only [c1,Bool.false_eq_true,if_false]at hR
   repeat' (first
 |simp only[go_sem,hY,hZ,gA,gB,c1]
 | (with_reducible refine aB hQ ?_;exact aU))
   refine eQ 2 0 ?_ ?_ (IH (rest,k+1) ⟨g2,hR⟩ (Nat.lt_succ_self _))
   ·(simp only[go_sem,hY,hZ,gA,gB,aM cd];try exact bQ)
   ·(simp only[go_sem,hY,hZ,gA,gB,aM cd];try exact bQ)
def ME (p:Pg):List Sm→Option Sm
 | []=>none
 |v::l=>if v.kind==4 && !(v.uP p)then some v else ME p l
def tj (c:Int):Option Sm→Int×Int
 |some v=>(c,v.id)
 |none=>(0,0)
def Pg.arity (p:Pg):Int×Int:=if p.scope.1==0 then tj 6 (ME p p.pre)else(1,0)
theorem Pg.my.pre {p:Pg} (h:p.my) : ∀ v∈p.pre,v.rI:=fun v m=>by
 simp only[Pg.pre,List.mem_flatten,List.mem_map]at m
 obtain⟨l,⟨f,hf,rfl⟩,m⟩:=m
 exact h.said hf v m
theorem MF {p:Pg} (h:p.my) (s:St):aA Tryz.prog rO [.agg (bY p)] s (.agg [.int .i64 p.arity.1, .int .i64 p.arity.2]) s:=by
 refine aA.pure ?_ (by simp[D.bN,D.ok,jP]) rfl s
 obtain⟨sI,q7,wk⟩:=h.procs
 have v7:=fun s=>xS h s
 have eK:=fun s=>GC (p:=p) (by omega) s
 have hL:=(sk p).1
 have hll:=sn p
 generalize hR:p.arity=R
 simp only[Pg.arity]at hR
 unfold S0
 have b0:(p.scope.1 != 0) = !(p.scope.1==0):=rfl
 rcases Bool.eq_false_or_eq_true (p.scope.1==0)with b1|b1
 case inr=>
  rw[b1]at b0
  simp only[b1,Bool.false_eq_true,if_false]at hR
  subst hR
  refine aA.go yz rfl fun B Q hB hQ=>?_
  have⟨hY,hZ,gA,gB⟩:=bu
  repeat' (first
 |simp only[go_sem,hY,hZ,gA,gB,b0,Bool.not_false]
 |(with_reducible refine CU (v7 _) ?_)
 |(with_reducible refine aB hQ ?_;exact aU))
 rw[b1]at b0
 simp only[b1,if_true, ← hL]at hR
 refine aA.go yz rfl fun B Q hB hQ=>?_
 have⟨hY,hZ,gA,gB⟩:=bu
 repeat' (first
 |simp only[go_sem,hY,hZ,gA,gB,b0,Bool.not_true,uf]
 |(with_reducible refine CU (v7 _) ?_)
 |(with_reducible refine CU (eK _) ?_)
 |(with_reducible refine aB hQ ?_;exact aU))
 refine cq 2 0 (bn.ind (ι:=List Im×Nat) (fun i=>p.fR.L.drop i.2=i.1∧tj 6 (ME p (i.1.map Im.s))=R) (fun i=>i.1.length)
  (fun i=> [(1, .ptr 0 0),(2, .ptr 1 0),(14, .slice .shared 17 (p.fR.L.map fD)),(15, .int .i64 (p.fR.L.length:Int)),(16, .int .i64 (i.2:Int))]) (fun i=>⟨[bY p,[.int .i64 0, .int .i64 0]],[]⟩) ?_ (p.fR.L,0) ⟨rfl,hR⟩)
 clear hR
 rintro⟨rest,k⟩ ⟨h1,hR⟩ IH
 dsimp only at h1 hR
 cases rest with
 |nil=>
  have hY:=drop_nil h1
  simp only[List.map_nil,ME,tj]at hR
  subst hR
  repeat' (first
 |simp only[go_sem,hY,hZ,gA,gB]
 |(with_reducible refine aB hQ ?_;exact aU))
 | cons a rest=>
  obtain⟨hZ,g2,hY,g4⟩:=drop_cons h1
  have cd:k<4611686018427387904:=by omega
  have Jm:a.s∈p.pre:=by rw[← hL];exact List.mem_map_of_mem (List.mem_of_getElem? hZ)
  have hf1:=fun s=>afT h (h.pre _ Jm) s
  simp only[List.map_cons,ME]at hR
  rcases Bool.eq_false_or_eq_true (a.s.kind==4)with c1|c1
  ·rcases Bool.eq_false_or_eq_true (a.s.uP p)with c2 | c2
   ·simp only [c1,c2,Bool.not_true,Bool.and_false,Bool.false_eq_true,if_false]at hR
    repeat' (first
 |simp only[go_sem,hY,hZ,gA,gB,c1,c2]
 |(with_reducible refine CU (hf1 _) ?_)
 | (with_reducible refine aB hQ ?_;exact aU))
    refine eQ 2 0 ?_ ?_ (IH (rest,k+1) ⟨g2,hR⟩ (Nat.lt_succ_self _))
    ·(simp only[go_sem,hY,hZ,gA,gB,aM cd];try exact bQ)
    ·(simp only[go_sem,hY,hZ,gA,gB,aM cd];try exact bQ)
   ·simp only [c1,c2,Bool.not_false,Bool.and_true,if_true,tj]at hR
    subst hR
    repeat' (first
 |simp only[go_sem,hY,hZ,gA,gB,c1,c2]
 |(with_reducible refine CU (hf1 _) ?_)
 | (with_reducible refine aB hQ ?_;exact aU))
  ·simp only [c1,Bool.false_and,Bool.false_eq_true,if_false]at hR
   repeat' (first
 |simp only[go_sem,hY,hZ,gA,gB,c1]
 |(with_reducible refine CU (hf1 _) ?_)
 | (with_reducible refine aB hQ ?_;exact aU))
   refine eQ 2 0 ?_ ?_ (IH (rest,k+1) ⟨g2,hR⟩ (Nat.lt_succ_self _))
   ·(simp only[go_sem,hY,hZ,gA,gB,aM cd];try exact bQ)
   ·(simp only[go_sem,hY,hZ,gA,gB,aM cd];try exact bQ)
theorem Jo {p:Pg} (h:(p.scope.1==0)=true):p.may=true:=by
 unfold Pg.scope at h
 split at h
 ·assumption
 ·cases h
def oH (out:List ay):List ay→ay→Bool→ay×Bool
 | [],c,a=>(c,a)
 |s::l,c,a=>if !(fM out s) && (!a ||bytesLess s c)then oH out l s true else oH out l c a
def Ve (l out:List ay):List ay:=if(oH out l [] false).2 then out++ [(oH out l [] false).1]else out
def qS (l:List ay):Nat→List ay→List ay
 | 0,out=>out
 |n+1,out=>qS l n (Ve l out)
def lf (l:List ay):List ay:=qS l l.length []
end Go.Abs
namespace Go.Proofs
open Go.Shelf
def Tryz.Ov:Go.Shelf.Ren:=⟨fun| 190=>126| 125=>169| 258=>168| 128=>202| 129=>203| 302=>193| 303=>194| 304=>195| 305=>196| 306=>197| 307=>198| 308=>199| 309=>200| 310=>201| 333=>220| 329=>221| 330=>222| 334=>223| 335=>224| 336=>225| 344=>238|n=>n,fun| 31=>22| 9=>9| 3=>3| 46=>177| 0=>0| 51=>194| 53=>196| 4=>4| 183=>187| 182=>186| 131=>131| 5=>5| 218=>209| 222=>213| 228=>221| 229=>218|n=>n,fun|n=>n⟩
theorem Tryz.Pn:Go.Proofs.Lays.n190 Tryz.prog Tryz.Ov:= {
 mixed:=by kernel_rfl
 f125:=Tryz.func169.trans (congrArg some (by kernel_rfl))
 f128:=Tryz.func202.trans (congrArg some (by kernel_rfl))
 f129:=Tryz.func203.trans (congrArg some (by kernel_rfl))
 f190:=Tryz.func126.trans (congrArg some (by kernel_rfl))
 f258:=Tryz.func168.trans (congrArg some (by kernel_rfl))
 f302:=Tryz.func193.trans (congrArg some (by kernel_rfl))
 f303:=Tryz.func194.trans (congrArg some (by kernel_rfl))
 f304:=Tryz.func195.trans (congrArg some (by kernel_rfl))
 f305:=Tryz.func196.trans (congrArg some (by kernel_rfl))
 f306:=Tryz.func197.trans (congrArg some (by kernel_rfl))
 f307:=Tryz.func198.trans (congrArg some (by kernel_rfl))
 f308:=Tryz.func199.trans (congrArg some (by kernel_rfl))
 f309:=Tryz.func200.trans (congrArg some (by kernel_rfl))
 f310:=Tryz.func201.trans (congrArg some (by kernel_rfl))
 f329:=Tryz.func221.trans (congrArg some (by kernel_rfl))
 f330:=Tryz.func222.trans (congrArg some (by kernel_rfl))
 f333:=Tryz.func220.trans (congrArg some (by kernel_rfl))
 f334:=Tryz.func223.trans (congrArg some (by kernel_rfl))
 f335:=Tryz.func224.trans (congrArg some (by kernel_rfl))
 f336:=Tryz.func225.trans (congrArg some (by kernel_rfl))
 f344:=Tryz.func238.trans (congrArg some (by kernel_rfl))
 t0:=Tryz.underlying0
 a0:=Tryz.isAgg0
 z0:=Tryz.sizeOf0
 v0:=Tryz.zeroValue0
 t3:=Tryz.underlying3
 a3:=Tryz.isAgg3
 z3:=Tryz.sizeOf3
 v3:=Tryz.zeroValue3
 t4:=Tryz.underlying4
 a4:=Tryz.isAgg4
 z4:=Tryz.sizeOf4
 v4:=Tryz.zeroValue4
 t5:=Tryz.underlying5
 a5:=Tryz.isAgg5
 z5:=Tryz.sizeOf5
 v5:=Tryz.zeroValue5
 t9:=Tryz.underlying9
 a9:=Tryz.isAgg9
 z9:=Tryz.sizeOf9
 v9:=Tryz.zeroValue9
 t31:=Tryz.underlying22
 a31:=Tryz.isAgg22
 z31:=Tryz.sizeOf22
 v31:=Tryz.zeroValue22
 t46:=Tryz.underlying177
 a46:=Tryz.isAgg177
 z46:=Tryz.sizeOf177
 v46:=Tryz.zeroValue177
 t51:=Tryz.underlying194
 a51:=Tryz.isAgg194
 z51:=Tryz.sizeOf194
 v51:=Tryz.zeroValue194
 t53:=Tryz.underlying196
 a53:=Tryz.isAgg196
 z53:=Tryz.sizeOf196
 v53:=Tryz.zeroValue196
 t131:=Tryz.underlying131
 a131:=Tryz.isAgg131
 z131:=Tryz.sizeOf131
 v131:=Tryz.zeroValue131
 t182:=Tryz.underlying186
 a182:=Tryz.isAgg186
 z182:=Tryz.sizeOf186
 v182:=Tryz.zeroValue186
 t183:=Tryz.underlying187
 a183:=Tryz.isAgg187
 z183:=Tryz.sizeOf187
 v183:=Tryz.zeroValue187
 t218:=Tryz.underlying209
 a218:=Tryz.isAgg209
 z218:=Tryz.sizeOf209
 v218:=Tryz.zeroValue209
 t222:=Tryz.underlying213
 a222:=Tryz.isAgg213
 z222:=Tryz.sizeOf213
 v222:=Tryz.zeroValue213
 t228:=Tryz.underlying221
 a228:=Tryz.isAgg221
 z228:=Tryz.sizeOf221
 v228:=Tryz.zeroValue221
 t229:=Tryz.underlying218
 a229:=Tryz.isAgg218
 z229:=Tryz.sizeOf218
 v229:=Tryz.zeroValue218}
open Go.Sort Go.RowKit in
theorem Tryz.slices_Sort_string (Dn off cap:Nat) (ss:List (List UInt8)) (w:World) (hH:Holds encStr w Dn off ss.toArray) (at8:Dn<w.heap.size) (ew:ss.length<4611686018427387904) :
 Calls Tryz.prog 126 #[.slice (some ⟨Dn,off,none⟩) ss.length cap] w fun e w'=>
  e = .returned (.tuple #[])∧∃ n os,w'=grow (putRow encStr (Sort.ahead w n) Dn off (ss.mergeSort fun x y=>decide (x≤y)).toArray) os:=Any.slices_Sort_string Tryz.Pn Dn off cap ss w hH at8 ew
def Tryz.Ow:Go.Shelf.Ren:=⟨fun| 194=>127|n=>n,fun| 31=>22| 9=>9| 3=>3| 4=>4| 0=>0|n=>n,fun|n=>n⟩
theorem Tryz.Po:Go.Proofs.Lays.n194 Tryz.prog Tryz.Ow:= {
 mixed:=by kernel_rfl
 f194:=Tryz.func127.trans (congrArg some (by kernel_rfl))
 t0:=Tryz.underlying0
 a0:=Tryz.isAgg0
 z0:=Tryz.sizeOf0
 v0:=Tryz.zeroValue0
 t3:=Tryz.underlying3
 a3:=Tryz.isAgg3
 z3:=Tryz.sizeOf3
 v3:=Tryz.zeroValue3
 t4:=Tryz.underlying4
 a4:=Tryz.isAgg4
 z4:=Tryz.sizeOf4
 v4:=Tryz.zeroValue4
 t9:=Tryz.underlying9
 a9:=Tryz.isAgg9
 z9:=Tryz.sizeOf9
 v9:=Tryz.zeroValue9
 t31:=Tryz.underlying22
 a31:=Tryz.isAgg22
 z31:=Tryz.sizeOf22
 v31:=Tryz.zeroValue22}
open Go.RowKit Go.Lib Go.Sort in
theorem Tryz.slices_Compact_string (Dn off cap:Nat) (zs:List (List UInt8)) (w:World) (hH:Holds encStr w Dn off zs.toArray) (ew:zs.length≤9223372036854775807) (vE:zs.length≤cap) :
 Calls Tryz.prog 127 #[.slice (some ⟨Dn,off,none⟩) zs.length cap] w fun e w'=>e = .returned (.slice (some ⟨Dn,off,none⟩) (Lib.compact zs).length cap)∧∃ q,w'=putRow encStr (Sort.ahead w q) Dn off (Lib.compact zs++List.replicate (zs.length - (Lib.compact zs).length) []).toArray:=Any.slices_Compact_string Tryz.Po Dn off cap zs w hH ew vE
open Go.RowKit Go.Lib Go.Sort in
theorem Tryz.slices_Compact_string_empty (a:Option Addr) (cap:Nat) (w:World) :
 Calls Tryz.prog 127 #[.slice a 0 cap] w fun e w'=>e = .returned (.slice a 0 cap)∧w'=w:=Any.slices_Compact_string_empty Tryz.Po a cap w
open Go.RowKit Go.Sort in
theorem Tryz.slices_Sort_string_none (p:Option Addr) (cap:Nat) (w:World) :
 Calls Tryz.prog 126 #[.slice p 0 cap] w fun e w'=>e = .returned (.tuple #[])∧w'=w:=Any.slices_Sort_string_none Tryz.Pn p cap w
end Go.Proofs
namespace Go.Abs
open Go.Proofs
section
variable {P:Program} {B:fZ} {nt:Nat}
theorem acn {x:Operand} {t:Nat} (h:cX x=some (.s t)):x = .tmp t:=by
 unfold cX at h
 split at h
 ·cases h;rfl
 ·obtain⟨d,_,h⟩:=map_some h;cases h
 ·cases h
 ·cases h
theorem Ss {ops:Array Oper} {o:Oper} {g g':Option (Nat×Bool)} {dst:Option Nat} {f:Nat} {xs:List X} (h:uv P ops o g=some (.call dst g' f xs)) :
 g'=g∧∃ args px,o.op = .call ⟨.value (.func f),args,px⟩∧enters P f=true∧zQ args.toList=some xs:=by
 unfold uv at h
 split at h
 ·rename_i f' args px k7
  split at h
  ·rename_i he
   obtain⟨xs',h1,h2⟩:=map_some h
   cases h2
   exact⟨rfl,args,px,k7,he,h1⟩
  ·cases h
 ·obtain⟨_,_,h⟩:=map_some h;cases h
 ·split at h
  ·cases h
  ·split at h<;>cases h
theorem Vf {ops:Array Oper} {o:Oper} {tmps:Array Value} (hg:xb ops o.guard=some none):Region.wanted o (yielded ops tmps)=true:=by
 have:o.guard=none:=by
  cases IP:o.guard with
  |none=>rfl
  |some p=>
   obtain⟨j,b⟩:=p
   rw[IP]at hg
   unfold xb at hg
   simp only at hg
   split at hg<;>cases hg
 simp[Region.wanted,this]
theorem Sem.afW {a k b f:Nat} {is:List AI} {Q:Exit→Tm→St→Prop} {tm:Tm} {s:St}
 (od : ∀ act w,Holds B nt (tm.put (some a) (tm.get k)) s act w→Calls P f #[act.tmps.getD a Go.undef] w fun e w'=>∃ v,e = .returned v∧∃ bU s',Holds B nt bU s' (act.put (some b) v) w'∧jK P is (Q .normal) bU s') :
 Sem P B nt (.run (.op (some a) none (.mv (.s k)):: .call (some b) none f [.s a]::is)) Q tm s:=by
 intro c hc act w hh
 obtain⟨id,ops,rfl,hi⟩:=mP hc
 refine wp_region ?_
 have key : ∀ (l:List Nat) (ol:List Oper),l.map (ops[·]?)=ol.map some→sD P nt ops ol=some (.op (some a) none (.mv (.s k)):: .call (some b) none f [.s a]::is)→wpOps P ops (q9 B nt Q) l act w:=by
  intro l ol hl zn
  match ol,l,hl with
  | [],_,_=>simp[sD]at zn
  |o0::ol,[],hl=>simp at hl
  | o0::ol,j0::l,hl=>
   simp only[List.map_cons,List.cons.injEq]at hl
   obtain⟨hj0,hl⟩:=hl
   unfold sD at zn
   split at zn
   ·rename_i i0 is0 h1 h2
    cases zn
    match ol,l,hl,h2 with
    | [],_,_,h2=>simp[sD]at h2
    |o1::ol,[],hl,_=>simp at hl
    | o1::ol,j1::l,hl,h2=>
     simp only[List.map_cons,List.cons.injEq]at hl
     obtain⟨hj1,hl⟩:=hl
     unfold sD at h2
     split at h2
     ·rename_i i1 is1 h3 h4
      cases h2
      obtain⟨M,e,r,ht,hn,hd⟩:=hh
      have Jb:=ve h1
      have hd1:=ve h3
      simp only[AI.dst]at Jb hd1
      refine zm (K':=fun bU s'=>bU=tm.put (some a) (tm.get k)∧s'=s) hj0 h1 r (B.laid.ext e) ht (by simp only[jK,guarded,a8,X.ev,and_self]) (fun d v s1 w1 M1 hk e1 r1 hv=>?_)
      obtain⟨xd,rfl⟩:=hk
      have hH:=Holds.put e ht hn hd (zX h1) e1 r1 hv
      simp only[AI.dst]at xd
      rw[← Jb]at hH ⊢
      rw[xd]at hH
      obtain⟨g,hg,_,hb⟩:=CT h3
      obtain⟨rfl,args,px,k7,Bb,mO⟩:=Ss hb
      simp only[wpOps,hj1,Vf hg,if_true]
      left
      have X8:args.map (act.put (some a) v).eval = #[(act.put (some a) v).tmps.getD a Go.undef]:=by
       have:args.toList = [.tmp a]:=by
        match hA:args.toList with
        | []=>rw[hA]at mO;simp[zQ]at mO
        | [x]=>
         rw[hA]at mO
         simp only[zQ]at mO
         split at mO
         ·rename_i x' r' hx hr
          cases mO
          rw[acn hx]
         ·cases mO
        | x::y::z=>
         rw[hA]at mO
         simp only[zQ]at mO
         split at mO
         ·rename_i x' r' hx hr
          cases mO
          split at hr
          ·cases hr
          ·cases hr
         ·cases mO
       have:args = #[.tmp a]:=by rw[← Array.toArray_toList (xs:=args),this]
       rw[this]
       simp only[List.map_toArray,List.map_cons,List.map_nil]
       rfl
      have hex:(execOp (act.put (some a) v).eval o1).run P w1 = .ok (.enter f #[(act.put (some a) v).tmps.getD a Go.undef]) w1:=by
       obtain⟨dst,op,type,pos,after,guard⟩:=o1
       simp only at k7
       subst k7
       rw[← X8]
       exact zi (act.put (some a) v).eval dst f args px type pos after guard rfl Bb w1
      unfold Oper.wp
      rw[hex,Oper.upon_enter]
      refine(od _ _ hH).mono ?_
      rintro en w' ⟨v',rfl,bU,s',hH',hvc⟩
      rw[← hd1]
      exact CM (Q:=Q) l ol _ hl h4 bU s' _ w' hvc hH'
     ·cases h2
   ·cases zn
 exact key _ _ (CO ops) hi
theorem Jp (hB:B.s = ⟨[],[]⟩) {tm:Tm} {s:St} {act:Act} {w:World} (h:Holds B nt tm s act w) {t:Nat} {l:List ay} (ht:s.aD[t]? = some (some l.length)) {k0:Nat} (hk0:tm.get k0 = .slice (.tok t) 1 (l.map encStr)) :
 (l = []∧∀ k,tm.get k = .slice (.tok t) 1 (l.map encStr)→(act.tmps.getD k Go.undef = .slice none 0 0∨∃ b q,act.tmps.getD k Go.undef = .slice (some ⟨b,q,none⟩) 0 0))∨
 ∃ (b cap:Nat) (vs:Array Value) (T:TypeId),(∀ k,tm.get k = .slice (.tok t) 1 (l.map encStr)→act.tmps.getD k Go.undef = .slice (some ⟨b,0,none⟩) l.length cap)∧l.length≤cap∧w.heap[b]? = some (.cells vs T (0,0))∧vs.size=cap∧B.w.heap.size≤b∧
  ∀ j (hj:j<l.length),vs[j]? = some (.string ⟨⟨l[j]⟩⟩):=by
 obtain⟨M,e,r,hr,_,_⟩:=h
 rcases r.tok t _ ht with ⟨h3,h4⟩|⟨b,cap,z,vs,T,h3,h4,h5,h6,h7⟩
 ·have hl:l = []:=List.eq_nil_of_length_eq_zero h4
  subst hl
  refine .inl ⟨rfl,fun k hk=>?_⟩
  have hv:=hr k
  rw[hk]at hv
  generalize act.tmps.getD k Go.undef=v at hv
  cases hv with
  |kR _ _ cap hc q6=>subst hc;exact .inl rfl
  |slice _ _ _ b q cap hl hs h1 h2 q6=>
   rcases(q6.2 _ ht).2 rfl with ⟨_,h0,_⟩|⟨b',_,lU⟩
   ·subst h0;exact .inr ⟨b,q,rfl⟩
   ·rw[h3]at lU;cases lU
 ·right
  have each : ∀ k,tm.get k = .slice (.tok t) 1 (l.map encStr)→z=1∧act.tmps.getD k Go.undef = .slice (some ⟨b,0,none⟩) l.length cap∧l.length≤cap∧∀ j (hj:j<l.length),∃ u,M.G b j=some u∧RD M s (.str l[j]) u:=by
   intro k hk
   have hv:=hr k
   rw[hk]at hv
   generalize act.tmps.getD k Go.undef=v at hv
   generalize mX:l.map encStr=rows at hv
   cases hv with
   |kR _ _ cap hc q6=>
    have hl:l = []:=by cases l<;>simp at mX;rfl
    subst hl
    rcases(q6.2 _ ht).2 rfl with ⟨h0,_⟩|⟨b',h0,_⟩
    ·rw[h3]at h0;cases h0
    ·cases h0
   | slice _ _ _ b2 q aBY hl hs h1 h2 q6=>
    subst mX
    rw[List.length_map]at hl q6
    rcases(q6.2 _ ht).2 rfl with ⟨h0,_⟩|⟨b',hb,lU⟩
    ·rw[h3]at h0;cases h0
    ·cases hb
     rw[h3]at lU
     cases lU
     refine⟨rfl,by rw[List.length_map],hl,fun j hj=>?_⟩
     have e1:(l.map encStr)[j]? = some [.str l[j]]:=by rw[List.getElem?_map,List.getElem?_eq_getElem hj];rfl
     obtain⟨u,hu⟩:=h1 j _ 0 _ e1 rfl
     refine⟨u,by simpa using hu,h2 j _ 0 _ u e1 rfl hu⟩
  obtain⟨rfl,_,vE,nD⟩:=each k0 hk0
  have eK:B.w.heap.size≤b:=by
   rcases e.sA t b cap 1 ⟨_,ht⟩ h3 with ⟨⟨n,hn⟩,_⟩|h
   ·rw[hB]at hn;simp at hn
   ·exact h
  refine⟨b,cap,vs,T,fun k hk=>(each k hk).2.1,vE,h4,by simpa[zs]using h5,eK,fun j hj=>?_⟩
  obtain⟨u,hu,lk⟩:=nD j hj
  have:=(r.comm _ _ _ hu).1
  rw[kB h4,lk.mD]at this
  exact this
theorem MG (hB:B.s = ⟨[],[]⟩) {tm:Tm} {s:St} {act vX:Act} {w w':World} (h:Holds B nt tm s act w) {b cap:Nat} {vs:Array Value} {T:TypeId} (ew:vs.size=cap) (yD:B.w.heap.size≤b)
 (nz : ∀ q,q<B.w.heap.size→w'.heap[q]? = w.heap[q]?) (eO:w'.heap[b]? = some (.cells vs T (0,0))) (fm:w.heap.size≤w'.heap.size) (I0:w'.os=w.os) (FZ:w'.tape=w.tape) (WH:w'.output=w.output)
 {l:List ay} (hl:l.length≤cap) (nD : ∀ j (hj:j<l.length),vs[j]? = some (.string ⟨⟨l[j]⟩⟩)) {k:Nat} (Sv:vX.tmps.getD k Go.undef = .slice (some ⟨b,0,none⟩) l.length cap) (hn:vX.tmps.size=nt) (hd:vX.defers = []) :
 Holds B nt [(k, .slice (.tok 0) 1 (l.map encStr))] ⟨[],[some l.length]⟩ vX w':=by
 obtain⟨M,e,r,hr,_,_⟩:=h
 let M':Map:=⟨fun q o=>if q=b then(if o<l.length then(l[o]?).map fun x=>Value.string ⟨⟨x⟩⟩else none)else B.M.G q o,B.M.loc,fun _=>some (b,cap,1)⟩
 have hGb : ∀ q o v,B.M.G q o=some v→q<B.w.heap.size∧w'.cell? ⟨q,o,none⟩=some v∧v.oneCell'=true:=by
  intro q o v hq
  obtain⟨h1,h2⟩:=r.comm q o v (e.le.G q o v hq)
  have hY:=B.old q o v hq
  refine⟨hY, ?_,h2⟩
  rw[← h1]
  simp[World.cell?,nz q hY]
 have yl : ∀ j (hj:j<l.length),w'.cell? ⟨b,j,none⟩=some (.string ⟨⟨l[j]⟩⟩):=fun j hj=>by rw[kB eO];exact nD j hj
 have hZ : ∀ (j:Nat) v,(if j<l.length then(l[j]?).map fun x=>Value.string ⟨⟨x⟩⟩else none)=some v→∃ hj:j<l.length,v = .string ⟨⟨l[j]⟩⟩:=by
  intro j v hv
  split at hv
  ·rename_i hj
   rw[List.getElem?_eq_getElem hj]at hv
   exact⟨hj,by simpa using hv.symm⟩
  ·cases hv
 refine⟨M',⟨⟨fun q o v hq=>?_,by simp[hB],fun o ho=> .refl _,by rw[hB];exact Nat.zero_le _,fun t n' ht _=>by rw[hB]at ht;exact absurd ht (Nat.not_lt_zero _)⟩,fun q hq _ _=>?_,fun o _ h2=>absurd h2 (Nat.not_lt_zero _),fun t q c z _ hb=>?_,fun q o eB=>?_,Nat.le_trans e.size fm,I0.trans e.os,FZ.trans e.tape,WH.trans e.output⟩,
  ⟨fun q o v hq=>?_,fun o ds ho=>by simp at ho,fun o ho=>absurd ho (Nat.not_lt_zero _),fun o o' ho=>absurd ho (Nat.not_lt_zero _),fun t n ht=>?_,fun t q c z o _ _ ho=>absurd ho (Nat.not_lt_zero _),fun t t' q c z c' z' US jc _ _=>?_⟩,fun u=>?_,hn,hd⟩
 ·show(if q=b then _ else B.M.G q o)=some v
  rw[if_neg (by have:=(hGb q o v hq).1;omega)]
  exact hq
 ·rw [nz q hq]
  exact e.kept q hq (fun o ho=>by rw[hB]at ho;exact absurd ho (Nat.not_lt_zero _)) (fun t c z jc=>by rw[hB]at jc;obtain⟨n,Cb⟩:=jc;simp at Cb)
 ·cases hb;exact .inr yD
 ·by_cases hq:q=b
  ·subst hq;exact .inl yD
  ·exact absurd (show(if q=b then _ else B.M.G q o)=B.M.G q o from if_neg hq) eB
 ·have q5:(if q=b then(if o<l.length then(l[o]?).map fun x=>Value.string ⟨⟨x⟩⟩else none)else B.M.G q o)=some v:=hq
  by_cases hqb:q=b
  ·rw [if_pos hqb]at q5
   obtain⟨hj,rfl⟩:=hZ o v q5
   rw[hqb]
   exact⟨yl o hj,rfl⟩
  ·rw [if_neg hqb]at q5
   exact(hGb q o v q5).2
 ·match t with
  | 0=>
   simp at ht
   subst ht
   refine .inr ⟨b,cap,1,vs,T,rfl,eO,by simp[zs,ew],hl,fun off ho=>?_,fun h=>by cases h⟩
   show(if b=b then(if off<l.length then _ else none)else B.M.G b off)=none
   rw[if_pos rfl,if_neg (by simp[zs]at ho;omega)]
  |t+1=>simp at ht
 ·obtain⟨n1,h1⟩:=US
  obtain⟨n2,h2⟩:=jc
  have a1:=(List.getElem?_eq_some_iff.1 h1).1
  have a2:=(List.getElem?_eq_some_iff.1 h2).1
  simp at a1 a2
  omega
 ·simp only [Tm.get]
  split
  ·rename_i hku
   subst hku
   rw[Sv]
   have:=RD.slice (M:=M') (s:=⟨[],[some l.length]⟩) (.tok 0) 1 (l.map encStr) b 0 cap (by simpa using hl) (fun row hr=>by
    obtain⟨x,_,rfl⟩:=List.mem_map.1 hr;rfl) (fun i row j d e1 e2=>?_) (fun i row j d u e1 e2 eu=>?_) ⟨by simp,fun n Cb=>by
    simp at Cb
    subst Cb
    exact⟨by simp,fun _=> .inr ⟨b,rfl,rfl⟩⟩⟩
   ·simpa using this
   ·rw [List.getElem?_map]at e1
    cases B2:l[i]? with
    |none=>rw[B2]at e1;cases e1
    |some x=>
     have rr:=(List.getElem?_eq_some_iff.1 B2).1
     rw[B2]at e1
     cases e1
     have hj:j=0:=by cases j with|zero=>rfl|succ j=>simp[encStr]at e2
     subst hj
     refine⟨.string ⟨⟨x⟩⟩, ?_⟩
     show(if b=b then(if 0+(i*1+0)<l.length then _ else none)else _)=_
     rw[if_pos rfl,if_pos (by omega)]
     simp[B2]
   ·rw [List.getElem?_map]at e1
    cases B2:l[i]? with
    |none=>rw[B2]at e1;cases e1
    |some x=>
     have rr:=(List.getElem?_eq_some_iff.1 B2).1
     rw[B2]at e1
     cases e1
     have hj:j=0:=by cases j with|zero=>rfl|succ j=>simp[encStr]at e2
     subst hj
     have O7:(if b=b then(if 0+(i*1+0)<l.length then(l[0+(i*1+0)]?).map fun x=>Value.string ⟨⟨x⟩⟩else none)else B.M.G b (0+(i*1+0)))=some u:=eu
     rw[if_pos rfl,if_pos (by omega)]at O7
     simp[B2]at O7
     subst O7
     simp[encStr]at e2
     subst e2
     exact .str x
  ·exact .junk _
theorem Pp (hB:B.s = ⟨[],[]⟩) {tm:Tm} {s:St} {act vX:Act} {w:World} (h:Holds B nt tm s act w) {k:Nat} (Sv:vX.tmps.getD k Go.undef = .slice none 0 0∨∃ b q,vX.tmps.getD k Go.undef = .slice (some ⟨b,q,none⟩) 0 0) (hn:vX.tmps.size=nt) (hd:vX.defers = []) :
 Holds B nt [(k, .slice (.tok 0) 1 (([] : List ay).map encStr))] ⟨[],[some 0]⟩ vX w:=by
 obtain⟨M,e,r,hr,_,_⟩:=h
 let M':Map:=⟨B.M.G,B.M.loc,fun _=>none⟩
 refine⟨M',⟨⟨fun q o v hq=>hq,by simp[hB],fun o ho=> .refl _,by rw[hB];exact Nat.zero_le _,fun t n' ht _=>by rw[hB]at ht;exact absurd ht (Nat.not_lt_zero _)⟩,fun q hq _ _=>?_,fun o _ h2=>absurd h2 (Nat.not_lt_zero _),fun t q c z _ hb=>(by cases hb),fun q o eB=>absurd rfl eB,e.size,e.os,e.tape,e.output⟩,
  ⟨fun q o v hq=>r.comm q o v (e.le.G q o v hq),fun o ds ho=>by simp at ho,fun o ho=>absurd ho (Nat.not_lt_zero _),fun o o' ho=>absurd ho (Nat.not_lt_zero _),fun t n ht=>?_,fun t q c z o _ _ ho=>absurd ho (Nat.not_lt_zero _),fun t t' q c z c' z' US jc h1 _=>by cases h1⟩,fun u=>?_,hn,hd⟩
 ·exact e.kept q hq (fun o ho=>by rw[hB]at ho;exact absurd ho (Nat.not_lt_zero _)) (fun t c z jc=>by rw[hB]at jc;obtain⟨n,Cb⟩:=jc;simp at Cb)
 ·match t with
  | 0=>simp at ht;subst ht;exact .inl ⟨rfl,rfl⟩
  |t+1=>simp at ht
 ·simp only [Tm.get]
  split
  ·rename_i hku
   subst hku
   have q6 : ∀ base,jE M' ⟨[],[some 0]⟩ (.tok 0) 1 0 base 0:=fun base=>⟨by simp,fun n Cb=>by
    simp at Cb
    subst Cb
    exact⟨Nat.le_refl _,fun _=> .inl ⟨rfl,rfl,fun h=>by cases h⟩⟩⟩
   rcases Sv with h|⟨b,q,h⟩
   ·rw[h];exact .kR _ _ 0 rfl (q6 none)
   ·rw[h];exact .slice (.tok 0) 1 [] b q 0 (Nat.le_refl _) (by simp) (by simp) (by simp) (q6 _)
  ·exact .junk _
theorem MH {α:Type} [Inhabited α] (enc:α→Value) (d:Array α) (c:Array Value) (j:Nat):(Sort.putCells enc 0 d c)[j]? = if j<d.size then(c[j]?).map fun _=>enc d[j]! else c[j]? :=by
 simp only[Sort.putCells,Array.getElem?_mapIdx]
 cases h:c[j]? with
 |none=>simp
 |some x=>by_cases hj:j<d.size<;>simp[hj]
theorem Jq {w:World} {b n cap:Nat} {vs:Array Value} {T:TypeId} (eO:w.heap[b]? = some (.cells vs T (0,0))) (ew:vs.size=cap) (l:List ay) (hl:l.length≤cap) (os:Array Obj) :
 (∀ q,q≠b→q<w.heap.size→(Sort.grow (Sort.putRow Go.Proofs.encStr (Sort.ahead w n) b 0 l.toArray) os).heap[q]? = w.heap[q]?)∧
 (Sort.grow (Sort.putRow Go.Proofs.encStr (Sort.ahead w n) b 0 l.toArray) os).heap[b]? = some (.cells (Sort.putCells Go.Proofs.encStr 0 l.toArray vs) T (0,0))∧w.heap.size≤(Sort.grow (Sort.putRow Go.Proofs.encStr (Sort.ahead w n) b 0 l.toArray) os).heap.size∧
 (Sort.putCells Go.Proofs.encStr 0 l.toArray vs).size=cap∧∀ j (hj:j<l.length),(Sort.putCells Go.Proofs.encStr 0 l.toArray vs)[j]? = some (.string ⟨⟨l[j]⟩⟩):=by
 have hb:b<w.heap.size:=(Array.getElem?_eq_some_iff.1 eO).1
 refine⟨fun q hq hY=>?_, ?_, ?_, ?_,fun j hj=>?_⟩
 ·simp only [Sort.grow,Sort.putRow,Sort.mapBlock,Sort.ahead]
  rw[Array.getElem?_append_left (by simpa using hY),Array.getElem?_modify]
  simp[Ne.symm hq]
 ·simp only [Sort.grow,Sort.putRow,Sort.mapBlock,Sort.ahead]
  rw[Array.getElem?_append_left (by simpa using hb),Array.getElem?_modify]
  simp[eO,Sort.onCells]
 ·simp[Sort.grow,Sort.putRow,Sort.mapBlock,Sort.ahead]
 ·simp[Sort.putCells,ew]
 ·rw [MH]
  have h1:j<l.toArray.size:=by simpa using hj
  have h2:vs[j]? = some vs[j]:=Array.getElem?_eq_getElem (by omega)
  rw[if_pos h1,h2]
  simp[hj]
def nK (l:List ay):List ay:=l.mergeSort fun x y=>decide (x≤y)
theorem MI {act:Act} {b:Nat} {v:Value} {u:Nat} (h:u≠b):(act.put (some b) v).tmps.getD u Go.undef=act.tmps.getD u Go.undef:=by
 simp only[Act.put,Array.getD_eq_getD_getElem?]
 rw[Array.getElem?_setIfInBounds_ne (fun e=>h e.symm)]
theorem Jr {act:Act} {b:Nat} {v:Value} (h:b<act.tmps.size):(act.put (some b) v).tmps.getD b Go.undef=v:=by
 simp only[Act.put,Array.getD_eq_getD_getElem?]
 simp[h]
theorem Sem.sort (hB:B.s = ⟨[],[]⟩) {a k b t:Nat} {l:List ay} {is:List AI} {Q:Exit→Tm→St→Prop} {tm:Tm} {s:St} (hak:a≠k) (hbk:b≠k) (ED:a≠b)
 (hk:tm.get k = .slice (.tok t) 1 (l.map encStr)) (ht:s.aD[t]? = some (some l.length)) (hl:l.length<4611686018427387904)
 (h:jK Tryz.prog is (Q .normal) [(k, .slice (.tok 0) 1 ((nK l).map encStr))] ⟨[],[some l.length]⟩) :
 Sem Tryz.prog B nt (.run (.op (some a) none (.mv (.s k)):: .call (some b) none km [.s a]::is)) Q tm s:=by
 refine Sem.afW fun act w hh=>?_
 have BX:(tm.put (some a) (tm.get k)).get k = .slice (.tok t) 1 (l.map encStr):=by rw[Tm.mF,if_neg (by simpa using hak)];exact hk
 have MJ:(tm.put (some a) (tm.get k)).get a = .slice (.tok t) 1 (l.map encStr):=by rw[Tm.mF,if_pos rfl];exact hk
 have G2:(nK l).length=l.length:=List.length_mergeSort l
 have hn:(act.put (some b) (.tuple #[])).tmps.size=nt:=by obtain⟨_,_,_,_,h1,_⟩:=hh;simpa[Act.put]using h1
 have hd:(act.put (some b) (.tuple #[])).defers = []:=by obtain⟨_,_,_,_,_,h1⟩:=hh;simpa[Act.put]using h1
 have ew:(act.tmps).size=nt:=by obtain⟨_,_,_,_,h1,_⟩:=hh;exact h1
 rcases Jp hB hh ht MJ with ⟨rfl,hv⟩|⟨b',cap,vs,T,hv,vE,eO,ql,yD,nD⟩
 ·rw [show nK [] = [] by simp [nK]]at h
  have call : ∀ p,act.tmps.getD a Go.undef = .slice p 0 0→Calls Tryz.prog km #[act.tmps.getD a Go.undef] w fun e w'=>∃ v,e = .returned v∧∃ bU s',Holds B nt bU s' (act.put (some b) v) w'∧jK Tryz.prog is (Q .normal) bU s':=by
   intro p hp
   rw[hp]
   refine(Tryz.slices_Sort_string_none p 0 w).mono ?_
   rintro e w' ⟨rfl,rfl⟩
   refine⟨_,rfl,_,_,Pp hB hh (k:=k) ?_ hn hd,h⟩
   rw[MI (Ne.symm hbk)]
   exact hv k BX
  rcases hv a MJ with h1|⟨b',q,h1⟩
  ·exact call _ h1
  ·exact call _ h1
 ·rw [hv a MJ]
  have hY:b'<w.heap.size:=(Array.getElem?_eq_some_iff.1 eO).1
  refine(Tryz.slices_Sort_string b' 0 cap l w (fun j hj=>?_) hY hl).mono ?_
  ·have Vg:j<l.length:=by simpa using hj
   refine⟨?_,by simp[World.frozen?,eO]⟩
   rw[Nat.zero_add,kB eO,nD j Vg]
   simp[Vg]
  ·rintro e w' ⟨rfl,n,os,rfl⟩
   obtain⟨p1,p2,p3,p4,p5⟩:=Jq (n:=n) eO ql (nK l) (by omega) os
   have hH:=MG hB hh (vX:=act.put (some b) (.tuple #[])) (l:=nK l) (k:=k) p4 yD (fun q hq=>p1 q (by omega) (by obtain⟨M,e,_⟩:=hh;exact Nat.lt_of_lt_of_le hq e.size)) p2 p3 rfl rfl rfl (by omega) p5 (by rw[MI (Ne.symm hbk),hv k BX,G2]) hn hd
   rw[G2]at hH
   exact⟨_,rfl,_,_,hH,h⟩
theorem Ox (l:List ay):(Lib.compact l).length≤l.length:=by
 unfold Lib.compact Lib.compactUpTo
 rw[List.length_map]
 exact Nat.le_trans (List.length_filter_le _ _) (by simp)
theorem Sem.compact (hB:B.s = ⟨[],[]⟩) {a k b t:Nat} {l:List ay} {is:List AI} {Q:Exit→Tm→St→Prop} {tm:Tm} {s:St} (hbt:b<nt)
 (hk:tm.get k = .slice (.tok t) 1 (l.map encStr)) (ht:s.aD[t]? = some (some l.length)) (hl:l.length<4611686018427387904)
 (h:jK Tryz.prog is (Q .normal) [(b, .slice (.tok 0) 1 ((Lib.compact l).map encStr))] ⟨[],[some (Lib.compact l).length]⟩) :
 Sem Tryz.prog B nt (.run (.op (some a) none (.mv (.s k)):: .call (some b) none kK [.s a]::is)) Q tm s:=by
 refine Sem.afW fun act w hh=>?_
 have MJ:(tm.put (some a) (tm.get k)).get a = .slice (.tok t) 1 (l.map encStr):=by rw[Tm.mF,if_pos rfl];exact hk
 have ew:(act.tmps).size=nt:=by obtain⟨_,_,_,_,h1,_⟩:=hh;exact h1
 have hn : ∀ v,(act.put (some b) v).tmps.size=nt:=fun v=>by simpa[Act.put]using ew
 have hd : ∀ v,(act.put (some b) v).defers = []:=by obtain⟨_,_,_,_,_,h1⟩:=hh;intro v;simpa[Act.put]using h1
 rcases Jp hB hh ht MJ with ⟨rfl,hv⟩|⟨b',cap,vs,T,hv,vE,eO,ql,yD,nD⟩
 ·rw [show Lib.compact ([] : List ay) = []from rfl]at h
  have call : ∀ p,act.tmps.getD a Go.undef = .slice p 0 0→(p=none∨∃ b q,p=some ⟨b,q,none⟩)→Calls Tryz.prog kK #[act.tmps.getD a Go.undef] w fun e w'=>∃ v,e = .returned v∧∃ bU s',Holds B nt bU s' (act.put (some b) v) w'∧jK Tryz.prog is (Q .normal) bU s':=by
   intro p hp hq
   rw[hp]
   refine(Tryz.slices_Compact_string_empty p 0 w).mono ?_
   rintro e w' ⟨rfl,rfl⟩
   refine⟨_,rfl,_,_,Pp hB hh (k:=b) ?_ (hn _) (hd _),h⟩
   rw[Jr (by omega)]
   rcases hq with rfl|⟨x,y,rfl⟩
   ·exact .inl rfl
   ·exact .inr ⟨x,y,rfl⟩
  rcases hv a MJ with h1|⟨b',q,h1⟩
  ·exact call _ h1 (.inl rfl)
  ·exact call _ h1 (.inr ⟨b',q,rfl⟩)
 ·rw [hv a MJ]
  have zW:(Lib.compact l).length≤l.length:=Ox l
  refine(Tryz.slices_Compact_string b' 0 cap l w (fun j hj=>?_) (by omega) vE).mono ?_
  ·have Vg:j<l.length:=by simpa using hj
   refine⟨?_,by simp[World.frozen?,eO]⟩
   rw[Nat.zero_add,kB eO,nD j Vg]
   simp[Vg]
  ·rintro e w' ⟨rfl,q,rfl⟩
   obtain⟨p1,p2,p3,p4,p5⟩:=Jq (n:=q) eO ql (Lib.compact l++List.replicate (l.length - (Lib.compact l).length) []) (by simp;omega) #[]
   rw[Sort.grow_empty]at p1 p2 p3
   have hH:=MG hB hh (vX:=act.put (some b) (.slice (some ⟨b',0,none⟩) (Lib.compact l).length cap)) (l:=Lib.compact l) (k:=b) p4 yD (fun q hq=>p1 q (by omega) (by obtain⟨M,e,_⟩:=hh;exact Nat.lt_of_lt_of_le hq e.size)) p2 p3 rfl rfl rfl (by omega)
    (fun j hj=>by
     have:=p5 j (by simp;omega)
     rw[List.getElem_append_left hj]at this
     exact this) (Jr (by omega)) (hn _) (hd _)
   exact⟨_,rfl,_,_,hH,h⟩
end
end Go.Abs
namespace Go.Abs
theorem G3 {a b:UInt8} : a<b↔a.toNat<b.toNat:=UInt8.lt_iff_toNat_lt
theorem AA : ∀ a:ay,bytesLess a a=false
 | []=>rfl
 |x::a=>by
  show Go.Op.bytesLess (x::a) (x::a)=false
  have h:=AA a
  have h:Go.Op.bytesLess a a=false:=h
  simp[Go.Op.bytesLess,h]
theorem AB : ∀ a b:ay,bytesLess a b=true∨a=b∨bytesLess b a=true
 | [],[]=> .inr (.inl rfl)
 | [],y::b=> .inl rfl
 |x::a,[]=> .inr (.inr rfl)
 | x::a,y::b=>by
  show Go.Op.bytesLess (x::a) (y::b)=true∨_∨Go.Op.bytesLess (y::b) (x::a)=true
  have h:Go.Op.bytesLess a b=true∨a=b∨Go.Op.bytesLess b a=true:=AB a b
  simp only[Go.Op.bytesLess,Bool.or_eq_true,Bool.and_eq_true,decide_eq_true_eq,beq_iff_eq,List.cons.injEq]
  by_cases e:x=y
  ·subst e
   rcases h with h|h|h
   ·exact .inl (.inr ⟨rfl,h⟩)
   ·exact .inr (.inl ⟨rfl,h⟩)
   ·exact .inr (.inr (.inr ⟨rfl,h⟩))
  ·have:x.toNat≠y.toNat:=fun h=>e (UInt8.toNat_inj.1 h)
   rcases Nat.lt_or_gt_of_ne this with h|h
   ·exact .inl (.inl (G3.2 h))
   ·exact .inr (.inr (.inl (G3.2 h)))
theorem G4 : ∀ a b c:ay,bytesLess a b=true→bytesLess b c=true→bytesLess a c=true
 |a,b,[],h1,h2=>by cases b<;>cases h2
 |a,[],z::c,h1,h2=>by cases a<;>cases h1
 | [],y::b,z::c,h1,h2=>rfl
 | x::a,y::b,z::c,h1,h2=>by
  have h1:Go.Op.bytesLess (x::a) (y::b)=true:=h1
  have h2:Go.Op.bytesLess (y::b) (z::c)=true:=h2
  show Go.Op.bytesLess (x::a) (z::c)=true
  simp only[Go.Op.bytesLess,Bool.or_eq_true,Bool.and_eq_true,decide_eq_true_eq,beq_iff_eq]at h1 h2 ⊢
  rcases h1 with e1|⟨i1,e1⟩
  ·rcases h2 with e2 | ⟨i2,e2⟩
   ·exact .inl (G3.2 (Nat.lt_trans (G3.1 e1) (G3.1 e2)))
   ·exact .inl (i2 ▸ e1)
  ·rcases h2 with e2 | ⟨i2,e2⟩
   ·exact .inl (i1 ▸ e2)
   ·exact .inr ⟨i1.trans i2,G4 a b c e1 e2⟩
def Dp (l:List ay):Prop:=l.Pairwise fun a b=>bytesLess a b=true
theorem zJ : ∀ {a b:List ay},Dp a→Dp b→(∀ x,x∈a↔x∈b)→a=b
 | [],[],_,_,_=>rfl
 | [],y::b,_,_,h=>absurd ((h y).2 List.mem_cons_self) (by simp)
 |x::a,[],_,_,h=>absurd ((h x).1 List.mem_cons_self) (by simp)
 | x::a,y::b,h1,h2,h=>by
  obtain⟨g1,g2⟩:=List.pairwise_cons.1 h1
  obtain⟨g3,g4⟩:=List.pairwise_cons.1 h2
  have e:x=y:=by
   rcases List.mem_cons.1 ((h x).1 List.mem_cons_self)with e|m
   ·exact e
   ·rcases List.mem_cons.1 ((h y).2 List.mem_cons_self)with e | m'
    ·exact e.symm
    ·have:=G4 _ _ _ (g3 x m) (g1 y m');rw[AA]at this;cases this
  subst e
  rw[zJ g2 g4 fun z=>?_]
  constructor
  ·intro m
   rcases List.mem_cons.1 ((h z).1 (List.mem_cons_of_mem _ m))with e|m'
   ·subst e;have:=g1 z m;rw[AA]at this;cases this
   ·exact m'
  ·intro m
   rcases List.mem_cons.1 ((h z).2 (List.mem_cons_of_mem _ m))with e|m'
   ·subst e;have:=g3 z m;rw[AA]at this;cases this
   ·exact m'
theorem wO (out:List ay) : ∀ (l:List ay) (c:ay) (a:Bool),
 let q:=oH out l c a
 (q.2=false↔a=false∧∀ x∈l,x∈out)∧(q.2=true→((a=true∧q.1=c)∨(q.1∈l∧q.1∉out))∧(a=true→bytesLess c q.1=false)∧∀ x∈l,x∉out→bytesLess x q.1=false)
 | [],c,a=>by
  simp only[oH]
  refine⟨by simp,fun h=>⟨.inl ⟨h,by trivial⟩,fun _=>AA c,fun x m=>(by cases m)⟩⟩
 | s::l,c,a=>by
  simp only[oH]
  by_cases h1:fM out s=true
  ·have m:=(kY _ _).1 h1
   simp only[h1,Bool.not_true,Bool.false_and,Bool.false_eq_true,if_false]
   obtain⟨k1,k2⟩:=wO out l c a
   refine⟨k1.trans ⟨fun h=>⟨h.1,fun x hx=>?_⟩,fun h=>⟨h.1,fun x hx=>h.2 x (List.mem_cons_of_mem _ hx)⟩⟩,fun h=>?_⟩
   ·rcases List.mem_cons.1 hx with rfl | hx
    ·exact m
    ·exact h.2 x hx
   ·obtain⟨g1,g2,g3⟩:=k2 h
    refine⟨g1.imp_right fun h=>⟨List.mem_cons_of_mem _ h.1,h.2⟩,g2,fun x hx hn=>?_⟩
    rcases List.mem_cons.1 hx with rfl|hx
    ·exact absurd m hn
    ·exact g3 x hx hn
  ·have m:s∉out:=fun m=>h1 ((kY _ _).2 m)
   have lW:fM out s=false:=by simpa using h1
   by_cases h2:(!a ||bytesLess s c)=true
   ·simp only [lW,h2,Bool.not_false,Bool.and_self,if_true]
    obtain⟨k1,k2⟩:=wO out l s true
    refine⟨⟨fun h=>absurd (k1.1 h).1 (by simp),fun h=>absurd (h.2 s List.mem_cons_self) m⟩,fun h=>?_⟩
    obtain⟨g1,g2,g3⟩:=k2 h
    have g4:=g2 rfl
    refine⟨.inr ?_,fun ha=>?_,fun x hx hn=>?_⟩
    ·rcases g1 with ⟨_,e⟩ | g1
     ·rw[e];exact⟨List.mem_cons_self,m⟩
     ·exact⟨List.mem_cons_of_mem _ g1.1,g1.2⟩
    ·have h3:bytesLess s c=true:=by simpa [ha]using h2
     cases hh:bytesLess c (oH out l s true).1
     ·rfl
     ·have:=G4 _ _ _ h3 hh;rw[g4]at this;cases this
    ·rcases List.mem_cons.1 hx with rfl | hx
     ·exact g4
     ·exact g3 x hx hn
   ·have zZ:(!a || bytesLess s c)=false:=by simpa using h2
    have ha:a=true:=by cases a<;>simp_all
    have h3:bytesLess s c=false:=by cases a<;>simp_all
    simp only[lW,zZ,Bool.not_false,Bool.and_false,Bool.false_eq_true,if_false]
    obtain⟨k1,k2⟩:=wO out l c a
    refine⟨⟨fun h=>absurd (k1.1 h).1 (by simp[ha]),fun h=>absurd h.1 (by simp[ha])⟩,fun h=>?_⟩
    obtain⟨g1,g2,g3⟩:=k2 h
    refine⟨g1.imp_right fun h=>⟨List.mem_cons_of_mem _ h.1,h.2⟩,g2,fun x hx hn=>?_⟩
    rcases List.mem_cons.1 hx with rfl|hx
    ·cases hh:bytesLess x (oH out l c a).1
     ·rfl
     ·have g4:=g2 ha
      rcases AB x c with e|e|e
      ·rw[h3]at e;cases e
      ·subst e;rw[g4]at hh;cases hh
      ·have:=G4 _ _ _ e hh;rw[g4]at this;cases this
    ·exact g3 x hx hn
theorem zK (l:List ay) : ∀ (n:Nat) (out:List ay),Dp out→(∀ x∈out,x∈l)→(∀ x∈out,∀ y∈l,y∉out→bytesLess x y=true)→
 Dp (qS l n out)∧(∀ x∈qS l n out,x∈l)∧(∀ x∈out,x∈qS l n out)∧((∀ x∈l,x∈qS l n out)∨(qS l n out).length=out.length+n)
 | 0,out,h1,h2,h3=>⟨h1,h2,fun x m=>m, .inr rfl⟩
 | n+1,out,h1,h2,h3=>by
  simp only[qS,Ve]
  obtain⟨k1,k2⟩:=wO out l [] false
  cases hq:(oH out l [] false).2
  ·simp only [Bool.false_eq_true,if_false]
   obtain⟨g1,g2,g3,g4⟩:=zK l n out h1 h2 h3
   exact⟨g1,g2,g3, .inl fun x m=>g3 x ((k1.1 hq).2 x m)⟩
  ·simp only [if_true]
   obtain⟨g1,_,g3⟩:=k2 hq
   have g1:(oH out l [] false).1∈l∧(oH out l [] false).1∉out:=by
    rcases g1 with ⟨h,_⟩|g1
    ·cases h
    ·exact g1
   generalize (oH out l [] false).1=c at g1 g3
   obtain⟨r1,r2,r3,r4⟩:=zK l n (out++ [c])
    (by
     refine List.pairwise_append.2 ⟨h1,by simp,fun x hx y hy=>?_⟩
     have:y=c:=by simpa using hy
     subst this
     exact h3 x hx y g1.1 g1.2)
    (fun x hx=>by
     rcases List.mem_append.1 hx with hx|hx
     ·exact h2 x hx
     ·have:x=c:=by simpa using hx
      subst this;exact g1.1)
    (fun x hx y hy hn=>by
     have hyo:y∉out:=fun m=>hn (List.mem_append_left _ m)
     have hyc:y≠c:=fun e=>hn (List.mem_append_right _ (by simp[e]))
     rcases List.mem_append.1 hx with hx|hx
     ·exact h3 x hx y hy hyo
     ·have:x=c:=by simpa using hx
      subst this
      rcases AB x y with h|h|h
      ·exact h
      ·exact absurd h.symm hyc
      ·rw[g3 y hy hyo]at h;cases h)
   refine⟨r1,r2,fun x m=>r3 x (List.mem_append_left _ m),r4.imp_right fun h=>?_⟩
   rw[h];simp;omega
theorem yM : ∀ (a l:List ay),a.Nodup→(∀ x∈a,x∈l)→a.length≤l.length
 | [],l,_,_=>Nat.zero_le _
 |x::a,l,h,hm=>by
  obtain⟨h1,h2⟩:=List.nodup_cons.1 h
  have m:=hm x List.mem_cons_self
  have:=yM a (l.erase x) h2 fun y hy=>(List.mem_erase_of_ne (fun e=>h1 (by rw[← e];exact hy))).2 (hm y (List.mem_cons_of_mem _ hy))
  rw[List.length_erase_of_mem m]at this
  have:0<l.length:=List.length_pos_of_mem m
  simp only[List.length_cons];omega
theorem wP {l:List ay} (h:Dp l):l.Nodup:=h.imp fun {a b} h e=>by subst e;rw[AA]at h;cases h
theorem nL (l:List ay):Dp (lf l)∧∀ x,x∈lf l↔x∈l:=by
 obtain⟨h1,h2,h3,h4⟩:=zK l l.length [] List.Pairwise.nil (fun x m=>(by cases m)) (fun x m=>(by cases m))
 refine⟨h1,fun x=>⟨h2 x,fun m=>?_⟩⟩
 rcases h4 with h4|h4
 ·exact h4 x m
 ·refine Classical.byContradiction fun hn=> ?_
  have:=yM (x::qS l l.length []) l (List.nodup_cons.2 ⟨hn,wP h1⟩) fun y hy=>by
   rcases List.mem_cons.1 hy with rfl|hy
   ·exact m
   ·exact h2 y hy
  simp only[List.length_cons,h4,List.length_nil]at this
  omega
theorem Oz (zs:List ay) (hs:zs.Pairwise fun a b=>bytesLess b a=false) : ∀ m,m≤zs.length→
 Dp (Lib.compactUpTo zs.toArray m)∧(∀ x,x∈Lib.compactUpTo zs.toArray m↔x∈zs.take m):=by
 intro m
 induction m with
 |zero=>intro _;exact⟨by simp[Lib.compactUpTo,Dp],fun x=>by simp[Lib.compactUpTo]⟩
 | succ m ih=>
  intro hm
  obtain⟨h1,h2⟩:=ih (by omega)
  have hz:zs[m]? = some zs[m]:=List.getElem?_eq_getElem (by omega)
  have e1:zs.toArray[m]! = zs[m]:=by simp[hm,Nat.lt_of_succ_le hm]
  have et:zs.take (m+1)=zs.take m++ [zs[m]]:=by rw[List.take_add_one,hz];rfl
  rw[Lib.compactUpTo_succ,e1,et]
  by_cases hk:Lib.keeps zs.toArray m=true
  ·rw [if_pos hk]
   refine⟨List.pairwise_append.2 ⟨h1,by simp,fun x hx y hy=>?_⟩,fun x=>by rw[List.mem_append,List.mem_append,h2]⟩
   have hy:y=zs[m]:=by simpa using hy
   subst hy
   have hx:=(h2 x).1 hx
   simp only[Lib.keeps,decide_eq_true_eq]at hk
   rcases hk with rfl|hk
   ·simp at hx
   ·have Mz:m - 1<zs.length:=by omega
    have e2:zs.toArray[m - 1]! = zs[m - 1]:=by simp[Mz]
    rw[e1,e2]at hk
    have h0:0<m:=by
     cases m with
     |zero=>simp at hx
     |succ m=>omega
    have hle : ∀ i j (hi:i<zs.length) (hj:j<zs.length),i<j→bytesLess zs[j] zs[i] = false:=fun i j hi hj ZC=>List.pairwise_iff_getElem.1 hs i j hi hj ZC
    have g1:bytesLess zs[m] zs[m - 1] = false:=hle (m - 1) m Mz (by omega) (by omega)
    have g2:bytesLess zs[m - 1] zs[m] = true:=by
     rcases AB zs[m - 1] zs[m]with h|h|h
     ·exact h
     ·exact absurd h.symm hk
     ·rw[g1]at h;cases h
    obtain⟨i,hi,rfl⟩:=List.mem_iff_getElem.1 hx
    rw[List.length_take]at hi
    rw[List.getElem_take]
    by_cases Et:i=m - 1
    ·subst Et;exact g2
    ·have g3:=hle i (m - 1) (by omega) Mz (by omega)
     rcases AB zs[i] zs[m - 1]with h|h|h
     ·exact G4 _ _ _ h g2
     ·rw[h];exact g2
     ·rw[g3]at h;cases h
  ·rw [if_neg hk]
   simp only[List.append_nil]
   refine⟨h1,fun x=>?_⟩
   rw[h2]
   simp only[Lib.keeps,decide_eq_true_eq,not_or,ne_eq,Decidable.not_not]at hk
   obtain⟨k1,k2⟩:=hk
   have Mz:m - 1<zs.length:=by omega
   have e2:zs.toArray[m - 1]! = zs[m - 1]:=by simp[Mz]
   rw[e1,e2]at k2
   simp only[List.mem_append,List.mem_singleton]
   constructor
   ·exact .inl
   ·rintro(h | rfl)
    ·exact h
    ·rw [k2]
     exact List.mem_iff_getElem.2 ⟨m - 1,by rw[List.length_take];omega,by rw[List.getElem_take]⟩
theorem Js (l:List ay):(nK l).Pairwise fun a b=>bytesLess b a=false:=by
 have h:=List.pairwise_mergeSort (le:=fun x y:ay=>decide (x≤y)) (fun a b c h1 h2=>?_) (fun a b=>?_) l
 ·refine h.imp fun {a b} h=> ?_
  rw[decide_eq_true_eq]at h
  show Go.Op.bytesLess b a=false
  rw[Go.Proofs.bytesLess_eq]
  simpa using h
 ·rw [decide_eq_true_eq]at h1 h2 ⊢
  exact List.le_trans h1 h2
 ·have:=List.le_total a b
  simpa using this
theorem Dq (l:List ay):Lib.compact (nK l)=lf l:=by
 obtain⟨h1,h2⟩:=Oz (nK l) (Js l) (nK l).length (Nat.le_refl _)
 obtain⟨h3,h4⟩:=nL l
 refine zJ h1 h3 fun x=>?_
 rw[h4]
 refine(h2 x).trans ?_
 rw[List.take_length]
 exact(List.mergeSort_perm _ _).mem_iff
set_option maxRecDepth 8000
open Go.Proofs
def nw:List Sm→List ay
 | []=> []
 |v::l=>if v.kind==4 then v.proc::nw l else nw l
theorem EI : ∀ l:List Sm,(nw l).length≤l.length
 | []=>Nat.le_refl _
 |v::l=>by
  simp only[nw]
  have:=EI l
  split<;>simp<;>omega
def Pc.calls (f:Pc):List ay:=lf (nw (Sm.eW f.body))
theorem Dr {name:ay} : ∀ {l:List Pc} {k:Nat} {f:Pc},mg name l=some f→∃ j,l[j]? = some f∧n5 (fun f:Pc=>f.name==name) (k:Int) l=((k+j:Nat):Int)
 | g::l,k,f,h=>by
  simp only[mg]at h
  cases e:(g.name==name)
  ·rw [e]at h
   simp only[Bool.false_eq_true,if_false]at h
   obtain⟨j,h1,h2⟩:=Dr (k:=k+1) h
   refine⟨j+1,by simpa using h1, ?_⟩
   simp only[n5,e,Bool.false_eq_true,if_false]
   rw[show((k:Int)+1)=((k+1:Nat):Int)from rfl,h2]
   congr 1;omega
  ·rw [e]at h
   simp only[if_true,Option.some.injEq]at h
   exact⟨0,by simpa using h,by simp[n5,e]⟩
theorem aco {p:Pg} (h:p.my) {name:ay} {f:Pc} (hf:p.find name=some f) (s:St):aA Tryz.prog vR [.eJ (jo p) 0, .str name] s (.slice .shared 1 (f.calls.map encStr)) s:=by
 refine aA.pure ?_ (by simp[D.bN,D.ok,Bs]) (by simp only[D.ok,Tag.ok,fw];rfl) s
 obtain⟨sI,q7,wk⟩:=h.procs
 obtain⟨j,hj,v8⟩:=Dr (k:=0) hf
 have v8:p.at name=((j:Nat):Int):=by unfold Pg.at;simpa using v8
 have Cd:=fun s=>UQ (p:=p) (by omega) name s
 rw[v8]at Cd
 obtain⟨it,wq,GZ⟩:=Yd hj (by omega)
 have afQ:it.length≤900000:=by
  have e:=congrArg List.length wq
  obtain⟨a,b,e',_,_,e3,e4⟩:=(sk p).2 j f hj
  have e5:=sn p
  have e6:=congrArg List.length e3
  rw[e4]at e5
  simp only[List.length_map,List.length_append]at e e5 e6
  omega
 unfold S0
 obtain⟨fn,wo,EH⟩:=Gu
 refine aA.intro ⟨fn,wo,EH⟩ (Nat.le_of_ble_eq_true rfl) fun B hB=>?_
 generalize hQ:jO (⟨[],[]⟩:St).az.length (⟨[],[]⟩:St).aD.length _ _ (⟨[],[]⟩:St)=Q
 have⟨hY,hZ,gA,gB⟩:=bu
 refine Sem.ma ?_
 repeat' (first
 |simp only[go_sem,hY,hZ,gA,gB]
 |(with_reducible refine aB hQ ?_;exact aU))
 refine Sem.ma ?_
 repeat' (first
 |simp only[go_sem,hY,hZ,gA,gB]
 |(with_reducible refine aB hQ ?_;exact aU))
 refine Sem.ma ?_
 repeat' (first
 |simp only[go_sem,hY,hZ,gA,gB]
 |(with_reducible refine CU (Cd _) ?_)
 |(with_reducible refine CU (GZ _) ?_)
 |(with_reducible refine aB hQ ?_;exact aU))
 refine bn.oZ 5 1 rfl ?_
 simp only[go_sem,hY,hZ,gA,gB]
 obtain⟨R,hR⟩ : ∃ R,R=nw (Sm.eW f.body):=⟨_,rfl⟩
 have Vh:R.length≤900000:=by rw[hR, ← wq];have:=EI (it.map Im.s);rw[List.length_map]at this;omega
 refine cq 0 1 (bn.ind (ι:=List Im×Nat×List ay×Nat) (fun i=>it.drop i.2.1=i.1∧i.2.2.1++nw (i.1.map Im.s)=R∧i.2.2.2=i.2.2.1.length) (fun i=>i.1.length)
  (fun i=> [(5, .slice (.tok 0) 1 (i.2.2.1.map encStr)),(12, .slice .shared 17 (it.map fD)),(13, .int .i64 (it.length:Int)),(14, .int .i64 (i.2.1:Int))]) (fun i=>⟨[],[some i.2.2.2]⟩) ?_ (it,0,[],0) ⟨rfl,by rw[hR,wq];rfl,rfl⟩)
 rintro⟨rest,k,out,n⟩ ⟨h1,h2,h3⟩ IH
 dsimp only at h1 h2 h3
 subst h3
 have rp:out.length≤900000:=by have:=congrArg List.length h2;rw[List.length_append]at this;omega
 cases rest with
 | cons a rest=>
  obtain⟨hZ,g2,hY,g4⟩:=drop_cons h1
  have cd:k<4611686018427387904:=by omega
  have gA:(out.length+1)*17≤aF:=by unfold aF;omega
  simp only[List.map_cons,nw]at h2
  rcases Bool.eq_false_or_eq_true (a.s.kind==4)with c1|c1
  ·simp only [c1,if_true]at h2
   repeat' (first
 |simp only[go_sem,hY,hZ,gA,gB,c1]
 | (with_reducible refine aB hQ ?_;exact aU))
   refine eQ 0 1 ?_ ?_ (IH (rest,k+1,out++ [a.s.proc],out.length+1) ⟨g2,by rw[← h2];simp,by simp⟩ (Nat.lt_succ_self _))
   ·(simp only[go_sem,hY,hZ,gA,gB,aM cd,List.map_append,List.map_cons,List.map_nil,encStr];try exact bQ)
   ·(simp only[go_sem,hY,hZ,gA,gB,aM cd,List.map_append,List.map_cons,List.map_nil,encStr];try exact bQ)
  ·simp only [c1,Bool.false_eq_true,if_false]at h2
   repeat' (first
 |simp only[go_sem,hY,hZ,gA,gB,c1]
 | (with_reducible refine aB hQ ?_;exact aU))
   refine eQ 0 1 ?_ ?_ (IH (rest,k+1,out,_) ⟨g2,h2,rfl⟩ (Nat.lt_succ_self _))
   ·(simp only[go_sem,hY,hZ,gA,gB,aM cd];try exact bQ)
   ·(simp only[go_sem,hY,hZ,gA,gB,aM cd];try exact bQ)
 |nil=>
  have hY:=drop_nil h1
  simp only[List.map_nil,nw,List.append_nil]at h2
  subst h2
  have G2:(nK out).length=out.length:=List.length_mergeSort out
  repeat' (first
 |simp only[go_sem,hY,hZ,gA,gB]
 |(with_reducible refine aB hQ ?_;exact aU))
  refine Sem.seq (Sem.sort (k:=5) (t:=0) (l:=out) hB (by decide) (by decide) (by decide) rfl rfl (by omega) ?_)
  show Sem _ _ _ _ _ _ _
  refine Sem.seq (Sem.compact (k:=5) (t:=0) (l:=nK out) hB (by decide) rfl (by rw[G2];rfl) (by rw[G2];omega) ?_)
  rw[Dq]
  have aub:f.calls=lf out:=by unfold Pc.calls;rw[hR]
  rw[aub]at hQ
  refine jn (ac:= .ret) (Q:=Q) (tm:= [(32, .slice (.tok 0) 1 ((lf out).map encStr)),(4, .slice (.tok 0) 1 ((lf out).map encStr))]) (s:=⟨[],[some (lf out).length]⟩) ?_
  repeat' (first
 |simp only[go_sem,hY,hZ,gA,gB]
 |(with_reducible refine aB hQ ?_;exact aU))
theorem Jt {name:ay} : ∀ {l:List Pc},name∈l.map (·.name)→∃ f,mg name l=some f
 | f::l,h=>by
  simp only[mg]
  cases e:(f.name==name)
  ·simp only [Bool.false_eq_true,if_false]
   refine Jt ?_
   rcases List.mem_cons.1 h with h|h
   ·rw[h]at e;simp at e
   ·exact h
  ·exact⟨f,rfl⟩
theorem Ju {p:Pg} {f:Pc} {procs:List ay} : ∀ {l:List Sm},Dk p f procs l=none→∀ v∈l,v.known p f procs=true
 | v::l,h,w,m=>by
  simp only[Dk]at h
  split at h
  ·rename_i e
   rcases List.mem_cons.1 m with rfl|m
   ·exact e
   ·exact Ju h w m
  ·cases h
theorem Jv {p:Pg} {procs:List ay} : ∀ {l:List Pc},((xR p procs l).1==0)=true→∀ f∈l,iG (p.globals++f.own)=false∧∀ v∈Sm.eW f.body,v.known p f procs=true
 | g::l,h,f,m=>by
  simp only[xR]at h
  split at h
  ·cases h
  ·rename_i e
   split at h
   ·cases h
   ·rename_i e2
    rcases List.mem_cons.1 m with rfl|m
    ·exact⟨by simpa using e,Ju e2⟩
    ·exact Jv h f m
theorem MK {p:Pg} (h:(p.scope.1==0)=true):iG p.globals=false∧iG p.pn=false∧p.Ay=false∧∀ f∈p.procs,iG (p.globals++f.own)=false∧∀ v∈Sm.eW f.body,v.known p f p.pn=true:=by
 unfold Pg.scope at h
 split at h
 ·split at h
  ·cases h
  ·rename_i e
   simp only[Bool.or_eq_true,not_or,Bool.not_eq_true]at e
   exact⟨e.1,e.2.1,e.2.2,Jv h⟩
 ·cases h
theorem zL {x:ay} : ∀ {l:List Sm},x∈nw l↔∃ v∈l,v.kind=4∧v.proc=x
 | []=>by simp[nw]
 | v::l=>by
  simp only[nw]
  cases e:(v.kind==4)
  ·have:v.kind≠4:=by simpa using e
   simp[this,zL (l:=l)]
  ·have:v.kind=4:=by simpa using e
   simp only[if_true,List.mem_cons,zL (l:=l),exists_eq_or_imp,this,true_and]
   constructor
   ·rintro(h | h)
    ·exact .inl h.symm
    ·exact .inr h
   ·rintro(h | h)
    ·exact .inl h.symm
    ·exact .inr h
theorem Vi {f:Pc} {x:ay} : x∈f.calls↔∃ v∈Sm.eW f.body,v.kind=4∧v.proc=x:=by
 unfold Pc.calls;rw[(nL _).2,zL]
theorem EJ {p:Pg} (h:(p.scope.1==0)=true) {f:Pc} (hf:f∈p.procs) {x:ay} (m:x∈f.calls) : ∃ g,p.find x=some g:=by
 obtain⟨v,hv,h4,rfl⟩:=Vi.1 m
 have hk:=((MK h).2.2.2 f hf).2 v hv
 simp only[Sm.known,h4,Bool.and_eq_true,Bool.or_eq_true]at hk
 rcases hk.2 with h|⟨_,h⟩
 ·simp at h
 ·exact Jt ((kY _ _).1 h)
def G5 (p:Pg) (x:ay):List ay:=match p.find x with|some f=>f.calls|none=> []
def Fz (out:List ay):List ay→List ay
 | []=>out
 |x::l=>Fz (DZ out x) l
def yN (p:Pg):Nat→Nat→List ay→List ay
 | 0,_,out=>out
 |n+1,i,out=>match out[i]? with
  |some x=>yN p n (i+1) (Fz out (G5 p x))
  |none=>out
def Pg.work (p:Pg) (name:ay):List ay:=yN p (p.procs.length+1) 0 [name]
def Good (p:Pg) (out:List ay):Prop:=out.Nodup∧∀ x∈out,∃ f,p.find x=some f
theorem Good.len {p:Pg} {out:List ay} (h:Good p out):out.length≤p.procs.length:=by
 have:=yM out p.pn h.1 fun x m=>by
  obtain⟨f,hf⟩:=h.2 x m
  obtain⟨h1,h2⟩:=uj hf
  rw[← h2];exact List.mem_map_of_mem h1
 simpa[Pg.pn]using this
theorem Good.spk {p:Pg} {out:List ay} (h:Good p out) {x:ay} (hx : ∃ f,p.find x=some f):Good p (DZ out x):=by
 unfold DZ
 split
 ·exact h
 ·rename_i e
  have:x∉out:=fun m=>e ((kY _ _).2 m)
  refine⟨List.nodup_append.2 ⟨h.1,by simp,fun a ha b hb e'=>?_⟩,fun y hy=>?_⟩
  ·have hbx:b=x:=by simpa using hb
   rw[e',hbx]at ha;exact this ha
  ·rcases List.mem_append.1 hy with hy | hy
   ·exact h.2 y hy
   ·have:y=x:=by simpa using hy
    subst this;exact hx
theorem Good.add {p:Pg} : ∀ {l out:List ay},Good p out→(∀ x∈l,∃ f,p.find x=some f)→Good p (Fz out l)
 | [],out,h,_=>h
 |x::l,out,h,hx=>Good.add (l:=l) (out:=DZ out x) (Good.spk h (hx x List.mem_cons_self)) fun y m=>hx y (List.mem_cons_of_mem _ m)
def tgB:Bool→Tag
 |true=> .tok 0
 |false=> .full
def tkB:Bool→Nat→List (Option Nat)
 |true,n=> [some n]
 |false,_=> []
def By:AI→AI
 | .op d g (.c9 z k n ps)=> .op d g (.w9 z k n ps)
 |a=>a
section
variable {P:Program}
theorem OA {nt:Nat} {ops:Array Oper} {i:Nat} {o:Oper} {ai:AI} (hi:ops[i]? = some o) (hc:cI P nt ops o=some ai)
 {M:Map} {s:St} {w:World} {tm:Tm} {act:Act} (r:Rel M s w) (mY:Laid M s w) (ht:nA M s tm act.tmps) {K':Tm→St→Prop} (h:jK P [By ai] K' tm s)
 {K:Act→World→Prop} {Q:Exit→Act→World→Prop}
 (hK : ∀ d v s1 w1 M1,K' (tm.put ai.dst d) s1→Ext M s w M1 s1 w1→Rel M1 s1 w1→RD M1 s1 d v→K (act.put o.dst v) w1):wpOp P ops Q i K act w:=by
 by_cases hb : ∃ d g z k n ps,ai = .op d g (.c9 z k n ps)
 ·obtain⟨d0,g0,z,k,n,ps,rfl⟩:=hb
  obtain⟨g,hg,_,hb⟩:=CT hc
  rw[vd hb]at hK
  simp only[wpOp,hi]
  have skip:K' (tm.put o.dst (.tuple [])) s→K (act.put o.dst Go.undef) w:=fun hk=>hK _ _ _ _ _ hk (Ext.refl M s w) r .undef
  have hd:=vd hb
  simp only[AI.dst]at hd
  subst hd
  have py:FO P o=some (.c9 z k n ps)∧g0=g:=by
   unfold uv at hb
   split at hb
   ·split at hb
    ·obtain⟨xs,_,h⟩:=map_some hb;cases h
    ·cases hb
   ·obtain⟨xs,_,h⟩:=map_some hb;cases h
   ·split at hb
    ·cases hb
    ·split at hb
     ·rename_i py
      simp only[Option.some.injEq,AI.op.injEq,true_and]at hb
      obtain⟨h1,h2⟩:=hb
      split at h2
      ·cases h2
      ·cases h2;exact⟨py,h1.symm⟩
     ·rename_i ao eB py
      simp only[Option.some.injEq,AI.op.injEq,true_and]at hb
      obtain⟨h1,h2⟩:=hb
      subst h2
      exact⟨py,h1.symm⟩
     ·cases hb
  obtain⟨py,rfl⟩:=py
  simp only[By,jK]at h
  rcases k8 hg ht h with ⟨hw,hA⟩|⟨hw,hB⟩
  ·simp only [hw,if_true]
   left
   split at hA
   ·rename_i d s' sf
    obtain⟨v,w',M',dt,r',hv,e'⟩:=Ba py r ht sf
    unfold Oper.wp
    rcases dt with dt|⟨dt,rfl⟩
    ·rw [dt,Oper.upon_value]
     exact hK _ _ _ _ _ hA e' r' hv
    ·rw [dt,Oper.upon_skip]
     exact hK _ _ _ _ _ hA e' r' hv
   ·exact hA.elim
  ·simp only [hw]
   exact skip hB
 ·have hs:By ai=ai:=by
   unfold By
   split
   ·rename_i d g z k n ps;exact absurd ⟨d,g,z,k,n,ps,rfl⟩ hb
   ·rfl
  rw[hs]at h
  exact zm hi hc r mY ht h hK
theorem acp {a:AI} {r:List AI} {K:Tm→St→Prop} {tm:Tm} {s:St} (h:jK P (a::r) K tm s):jK P [a] (jK P r K) tm s:=by
 cases a<;>exact h
theorem Jw {B:fZ} {nt:Nat} {ops:Array Oper} {Q:Exit→Tm→St→Prop} : ∀ (l:List Nat) (ol:List Oper) (is:List AI),l.map (ops[·]?)=ol.map some→sD P nt ops ol=some is→
 ∀ (tm:Tm) (s:St) (act:Act) (w:World),jK P (is.map By) (Q .normal) tm s→Holds B nt tm s act w→wpOps P ops (q9 B nt Q) l act w
 | [],[],is,_,hc,tm,s,act,w,h,hh=>by cases hc;exact⟨tm,s,h,hh⟩
 | [],_::_,_,hl,_,_,_,_,_,_,_=>by simp at hl
 |_::_,[],_,hl,_,_,_,_,_,_,_=>by simp at hl
 | i::l,o::ol,is,hl,hc,tm,s,act,w,h,hh=>by
  simp only[List.map_cons,List.cons.injEq]at hl
  obtain⟨hi,hl⟩:=hl
  unfold sD at hc
  split at hc
  ·rename_i ai Tx h1 h2
   cases hc
   obtain⟨M,e,r,ht,hn,hd⟩:=hh
   have rW:=zX h1
   have hdd:=ve h1
   rw[List.map_cons]at h
   have key:=OA (K:=fun act w=>wpOps P ops (q9 B nt Q) l act w) (Q:=q9 B nt Q) hi h1 r (B.laid.ext e) ht (acp h) (fun d v s1 w1 M1 hk e1 r1 hv=>
    Jw (Q:=Q) l ol Tx hl h2 _ _ _ _ hk (hdd ▸ Holds.put e ht hn hd rW e1 r1 hv))
   simpa only[wpOps,wpOp,hi]using key
  ·cases hc
theorem Sem.swap {B:fZ} {nt:Nat} {is:List AI} {Q:Exit→Tm→St→Prop} {tm:Tm} {s:St} (h:gS P B nt (.run (is.map By)) Q tm s):Sem P B nt (.run is) Q tm s:=by
 intro c hc act w hh
 obtain⟨id,ops,rfl,hi⟩:=mP hc
 refine wp_region ?_
 exact Jw _ _ is (CO ops) hi tm s act w (pI h) hh
end
end Go.Abs
namespace Go.Abs
set_option maxRecDepth 8000
open Go.Proofs
theorem Sw {l:List ay} (h:l.Nodup):nK l=lf l:=by
 refine zJ ?_ (nL l).1 fun x=>?_
 ·have h1:=Js l
  have h2:(nK l).Nodup:=(List.mergeSort_perm l _).nodup_iff.2 h
  refine(List.pairwise_and_iff.2 ⟨h1,h2⟩).imp fun {a b} ED=>?_
  rcases AB a b with e|e|e
  ·exact e
  ·exact absurd e ED.2
  ·rw[ED.1]at e;cases e
 ·rw[(nL l).2];exact(List.mergeSort_perm l _).mem_iff
theorem Ds {p:Pg} (oS:(p.scope.1==0)=true) : ∀ (n i:Nat) (out:List ay),Good p out→Good p (yN p n i out)
 | 0,i,out,h=>h
 | n+1,i,out,h=>by
  simp only[yN]
  split
  ·rename_i x hx
   obtain⟨g,hg⟩:=h.2 x (List.mem_of_getElem? hx)
   refine Ds oS n _ _ (h.add fun y m=>?_)
   unfold G5 at m
   rw[hg]at m
   exact EJ oS (uj hg).1 m
  ·exact h
theorem FA {p:Pg} {name:ay} {f:Pc} (hf:p.find name=some f):Good p [name]:=
 ⟨by simp,fun x m=>by
  have:x=name:=by simpa using m
  subst this;exact⟨f,hf⟩⟩
theorem acq {p:Pg} (h:p.my) (oS:(p.scope.1==0)=true) {name:ay} {f:Pc} (hf:p.find name=some f) (s:St):aA Tryz.prog zu [.eJ (jo p) 0, .str name] s (.slice .shared 1 ((lf (p.work name)).map encStr)) s:=by
 refine aA.pure ?_ (by simp[D.bN,D.ok,Bs]) (by simp only[D.ok,Tag.ok,fw];rfl) s
 obtain⟨sI,q7,wk⟩:=h.procs
 obtain⟨R,hR⟩ : ∃ R,p.work name=R:=⟨_,rfl⟩
 have hgR:Good p R:=hR ▸ Ds oS _ _ _ (FA hf)
 rw[hR, ← Sw hgR.1]
 unfold Pg.work at hR
 have hg0:Good p [name]:=FA hf
 have Vh:=hgR.len
 unfold S0
 obtain⟨fn,wo,EH⟩:=Ki
 refine aA.intro ⟨fn,wo,EH⟩ (Nat.le_of_ble_eq_true rfl) fun B hB=>?_
 generalize hQ:jO (⟨[],[]⟩:St).az.length (⟨[],[]⟩:St).aD.length _ _ (⟨[],[]⟩:St)=Q
 have⟨hY,hZ,gA,gB⟩:=bu
 refine Sem.ma ?_
 repeat' (first
 |simp only[go_sem,hY,hZ,gA,gB]
 |(with_reducible first|refine bq fun hc=>?_|refine br fun hc=>?_|refine bt (fun hc=>?_) fun hc=>?_)<;>(try simp only[hc,bs,↓reduceIte]at h)<;>try simp only[hc]
 |(with_reducible refine aB hQ ?_;exact eo)
 |(cases h;done))
 refine Sem.seq (Sem.swap ?_)
 simp only[List.map_cons,List.map_nil,By]
 repeat' (first
 |simp only[go_sem,hY,hZ,gA,gB]
 |(with_reducible first|refine bq fun hc=>?_|refine br fun hc=>?_|refine bt (fun hc=>?_) fun hc=>?_)<;>(try simp only[hc,bs,↓reduceIte]at h)<;>try simp only[hc]
 |(with_reducible refine aB hQ ?_;exact eo)
 |(cases h;done))
 refine Sem.ma ?_
 repeat' (first
 |simp only[go_sem,hY,hZ,gA,gB]
 |(with_reducible first|refine bq fun hc=>?_|refine br fun hc=>?_|refine bt (fun hc=>?_) fun hc=>?_)<;>(try simp only[hc,bs,↓reduceIte]at h)<;>try simp only[hc]
 |(with_reducible refine aB hQ ?_;exact eo)
 |(cases h;done))
 refine cq 0 1 (bn.ind (ι:=Nat×Nat×List ay×Nat) (fun i=>yN p i.1 i.2.1 i.2.2.1=R∧Good p i.2.2.1∧i.1+i.2.1=p.procs.length+1∧i.2.2.2=i.2.2.1.length) (fun i=>i.1)
  (fun i=> [(0, .eJ (jo p) 0),(5, .slice (.tok 0) 1 (i.2.2.1.map encStr)),(6, .int .i64 (i.2.1:Int))]) (fun i=>⟨[],[some i.2.2.2]⟩) ?_ (p.procs.length+1,0,[name],1) ⟨hR,hg0,rfl,rfl⟩)
 rintro⟨n,i,out,no⟩ ⟨h1,h2,h3,h4⟩ IH
 dsimp only at h1 h2 h3 h4
 subst h4
 have rp:=h2.len
 cases hx:out[i]? with
 | none=>
  have hY:decide ((i:Int)<(out.length:Int))=false:=by have:=List.getElem?_eq_none_iff.1 hx;simp;omega
  have:R=out:=by
   cases n with
   |zero=>simpa[yN]using h1.symm
   |succ n=>simp only[yN,hx]at h1;exact h1.symm
  subst this
  repeat' (first
 |simp only[go_sem,hY,hZ,gA,gB]
 |(with_reducible first|refine bq fun hc=>?_|refine br fun hc=>?_|refine bt (fun hc=>?_) fun hc=>?_)<;>(try simp only[hc,bs,↓reduceIte]at h)<;>try simp only[hc]
 |(with_reducible refine aB hQ ?_;exact eo)
 |(cases h;done))
  refine Sem.seq (Sem.sort (k:=5) (t:=0) (l:=R) hB (by decide) (by decide) (by decide) rfl rfl (by omega) ?_)
  refine jn (ac:=ae5) (Q:=Q) (tm:= [(5, .slice (.tok 0) 1 ((nK R).map encStr))]) (s:=⟨[],[some R.length]⟩) ?_
  repeat' (first
 |simp only[go_sem,hY,hZ,gA,gB]
 |(with_reducible first|refine bq fun hc=>?_|refine br fun hc=>?_|refine bt (fun hc=>?_) fun hc=>?_)<;>(try simp only[hc,bs,↓reduceIte]at h)<;>try simp only[hc]
 |(with_reducible refine aB hQ ?_;exact eo)
 |(cases h;done))
 |some x=>
  have rr:=(List.getElem?_eq_some_iff.1 hx).1
  have hY:decide ((i:Int)<(out.length:Int))=true:=by simp;omega
  have Et:i<4611686018427387904:=by omega
  cases n with
  |zero=>omega
  |succ n=>
  simp only[yN,hx]at h1
  obtain⟨g,MM⟩:=h2.2 x (List.mem_of_getElem? hx)
  have hgm:=(uj MM).1
  have hca:=fun s=>aco h MM s
  have hcn:G5 p x=g.calls:=by unfold G5;rw[MM]
  rw[hcn]at h1
  have hth : ∀ y∈g.calls,∃ f,p.find y=some f:=fun y m=>EJ oS hgm m
  have aBZ:g.calls.length≤p.procs.length:=Good.len ⟨wP (nL _).1,hth⟩
  obtain⟨W,hW⟩ : ∃ W,Fz out g.calls=W:=⟨_,rfl⟩
  rw[hW]at h1
  repeat' (first
 |simp only[go_sem,hY,hZ,gA,gB,hx]
 |(with_reducible refine CU (hca _) ?_)
 |(with_reducible first|refine bq fun hc=>?_|refine br fun hc=>?_|refine bt (fun hc=>?_) fun hc=>?_)<;>(try simp only[hc,bs,↓reduceIte]at h)<;>try simp only[hc]
 |(with_reducible refine aB hQ ?_;(try cases h);simp only[cj,cr,dK,dL,go_sem,hY,hZ,gA,gB,hx];try exact dM)
 | (cases h;done))
  refine cq 0 1 (bn.ind (ι:=List ay×Nat×List ay×Nat) (fun j=>g.calls.drop j.2.1=j.1∧Fz j.2.2.1 j.1=W∧Good p j.2.2.1∧j.2.2.2=j.2.2.1.length) (fun j=>j.1.length)
   (fun j=> [(0, .eJ (jo p) 0),(5, .slice (.tok 0) 1 (j.2.2.1.map encStr)),(6, .int .i64 (i:Int)),(22, .slice .shared 1 (g.calls.map encStr)),(23, .int .i64 (g.calls.length:Int)),(24, .int .i64 (j.2.1:Int))]) (fun j=>⟨[],[some j.2.2.2]⟩) ?_ (g.calls,0,out,out.length) ⟨rfl,hW,h2,rfl⟩)
  clear hW
  rintro⟨rest,k,cU,n'⟩ ⟨j1,j2,j3,j4⟩ IH'
  dsimp only at j1 j2 j3 j4
  subst j4
  have aB0:=j3.len
  cases rest with
  |nil=>
   have af1:=drop_nil j1
   simp only[Fz]at j2
   subst j2
   repeat' (first
 |simp only[go_sem,hY,hZ,gA,gB,af1]
 |(with_reducible first|refine bq fun hc=>?_|refine br fun hc=>?_|refine bt (fun hc=>?_) fun hc=>?_)<;>(try simp only[hc,bs,↓reduceIte]at h)<;>try simp only[hc]
 |(with_reducible refine aB hQ ?_;(try cases h);simp only[cj,cr,dK,dL,go_sem,hY,hZ,gA,gB,af1];try exact dM)
 | (cases h;done))
   refine eQ 0 1 ?_ ?_ (IH (n,i+1,cU,cU.length) ⟨h1,j3,by dsimp only;omega,rfl⟩ (Nat.lt_succ_self _))
   ·(simp only[go_sem,hY,hZ,gA,gB,aM Et];try exact bQ)
   ·(simp only[go_sem,hY,hZ,gA,gB,aM Et];try exact bQ)
  | cons y rest=>
   obtain⟨qA,Pl,Az,jg4⟩:=drop_cons j1
   have vn:k<4611686018427387904:=by omega
   have gA:(cU.length+1)*17≤aF:=by unfold aF;omega
   have G6:=fun g s=>kr (l:=cU) (by omega) y g s
   have hy:=hth y (List.mem_of_getElem? qA)
   have EA:=j3.spk hy
   simp only[Fz]at j2
   rcases Bool.eq_false_or_eq_true (fM cU y)with c1|c1
   ·simp only [DZ,c1,if_true]at j2
    repeat' (first
 |simp only[go_sem,hY,hZ,gA,gB,Az,qA,c1]
 |(with_reducible refine CU (G6 _ _) ?_)
 |(with_reducible first|refine bq fun hc=>?_|refine br fun hc=>?_|refine bt (fun hc=>?_) fun hc=>?_)<;>(try simp only[hc,bs,↓reduceIte]at h)<;>try simp only[hc]
 |(with_reducible refine aB hQ ?_;(try cases h);simp only[cj,cr,dK,dL,go_sem,hY,hZ,gA,gB,Az,qA,c1];try exact dM)
 | (cases h;done))
    refine eQ 0 1 ?_ ?_ (IH' (rest,k+1,cU,cU.length) ⟨Pl,j2,j3,rfl⟩ (Nat.lt_succ_self _))
    ·(simp only[go_sem,hY,hZ,gA,gB,aM vn];try exact bQ)
    ·(simp only[go_sem,hY,hZ,gA,gB,aM vn];try exact bQ)
   ·simp only [DZ,c1,Bool.false_eq_true,if_false]at j2 EA
    repeat' (first
 |simp only[go_sem,hY,hZ,gA,gB,Az,qA,c1]
 |(with_reducible refine CU (G6 _ _) ?_)
 |(with_reducible first|refine bq fun hc=>?_|refine br fun hc=>?_|refine bt (fun hc=>?_) fun hc=>?_)<;>(try simp only[hc,bs,↓reduceIte]at h)<;>try simp only[hc]
 |(with_reducible refine aB hQ ?_;(try cases h);simp only[cj,cr,dK,dL,go_sem,hY,hZ,gA,gB,Az,qA,c1];try exact dM)
 | (cases h;done))
    refine eQ 0 1 ?_ ?_ (IH' (rest,k+1,cU++ [y],cU.length+1) ⟨Pl,j2,EA,by simp⟩ (Nat.lt_succ_self _))
    ·(simp only[go_sem,hY,hZ,gA,gB,aM vn,List.map_append,List.map_cons,List.map_nil,encStr];try exact bQ)
    ·(simp only[go_sem,hY,hZ,gA,gB,aM vn,List.map_append,List.map_cons,List.map_nil,encStr];try exact bQ)
theorem MN (name:ay) : ∀ l:List Pc,l.any (fun f=>f.name==name)=(mg name l).isSome
 | []=>rfl
 |f::l=>by
  simp only[List.any_cons,mg]
  cases e:(f.name==name)
  ·simp[MN name l]
  ·simp
theorem YG (name:ay) (f:Pc):aA Tryz.prog p7 ([.agg (cH f)]++ [.ptr 0 0]) ⟨[[.str name]],[]⟩ (.bool (f.name==name)) ⟨[[.str name]],[]⟩:=by
 show aA Tryz.prog p7 [.agg (cH f), .ptr 0 0] _ _ _
 refine aA.go Eh rfl fun B Q hB hQ=>?_
 have⟨hY,hZ,gA,gB⟩:=bu
 repeat' (first
 |simp only[go_sem,hY,hZ,gA,gB]
 |(with_reducible refine aB hQ ?_;exact aU))
def Pg.Bz (p:Pg) (name:ay):Option Pc:=if p.scope.1==0 then p.find name else none
theorem YH {p:Pg} (h:p.my) (name:ay) (s:St):aA Tryz.prog vP [.agg (bY p), .str name] s (.bool (p.Bz name).isSome) s:=by
 refine aA.pure ?_ (by simp[D.bN,D.ok,jP]) rfl s
 obtain⟨sI,q7,wk⟩:=h.procs
 have v7:=fun s=>xS h s
 have hi:=fun {s:St} {o:Nat} (ho:s.az[o]? = some [.str name])=>Dd (Cj (l:=p.procs) (f:=p7) (row:= [.str name]) (b:=fun f:Pc=>f.name==name) (by omega) rfl (by with_unfolding_all rfl) (fun x _=>YG name x)) rfl (Kz _) rfl ho
 have jd:=fun {s:St} {o:Nat} (ho:s.az[o]? = some [.str name])=>(show aA Tryz.prog iE [.slice .shared 5 (p.procs.map cH), .iK 164 [.ptr o 0]] s (.bool (p.procs.any fun f:Pc=>f.name==name)) s from hi ho)
 simp only[MN]at jd
 unfold Pg.Bz Pg.find
 unfold S0
 rcases Bool.eq_false_or_eq_true (p.scope.1==0)with b1|b1
 ·simp only [b1,if_true]
  refine aA.go yC rfl fun B Q hB hQ=>?_
  have⟨hY,hZ,gA,gB⟩:=bu
  repeat' (first
 |simp only[go_sem,hY,hZ,gA,gB,b1]
 |(with_reducible refine CU (v7 _) ?_)
 |(with_reducible refine CU (jd (by with_unfolding_all rfl)) ?_)
 |(with_reducible refine aB hQ ?_;exact aU))
 ·simp only [b1,Bool.false_eq_true,if_false,Option.isSome_none]
  refine aA.go yC rfl fun B Q hB hQ=>?_
  have⟨hY,hZ,gA,gB⟩:=bu
  repeat' (first
 |simp only[go_sem,hY,hZ,gA,gB,b1]
 |(with_reducible refine CU (v7 _) ?_)
 |(with_reducible refine CU (jd (by with_unfolding_all rfl)) ?_)
 |(with_reducible refine aB hQ ?_;exact aU))
def Pg.aAz (p:Pg) (name:ay):List ay:=match p.Bz name with|some f=>f.calls|none=> []
def Pg.auc (p:Pg) (name:ay):List ay:=match p.Bz name with|some _=>lf (p.work name)|none=> []
theorem Jx {p:Pg} {name:ay} {f:Pc} (h:p.Bz name=some f):(p.scope.1==0)=true∧p.find name=some f:=by
 unfold Pg.Bz at h
 split at h
 ·exact⟨by assumption,h⟩
 ·cases h
def uQ (p:Pg) (out:List ay):List ay→List ay
 | []=>out
 |v::l=>uQ p (if fM p.globals v then out++ [v]else out) l
def uR (p:Pg) (out:List ay):List Sm→List ay
 | []=>out
 |v::l=>uR p (uQ p out v.said) l
def vu (p:Pg) (n:ay):List Sm:=match p.find n with|some f=>Sm.eW f.body|none=> []
def wQ (p:Pg) (out:List ay):List ay→List ay
 | []=>out
 |n::l=>wQ p (uR p out (vu p n)) l
theorem BA (p:Pg) : ∀ (l out:List ay),out.length≤(uQ p out l).length∧(uQ p out l).length≤out.length+l.length
 | [],out=>⟨Nat.le_refl _,Nat.le_refl _⟩
 |v::l,out=>by
  simp only[uQ]
  have h:=BA p l (if fM p.globals v then out++ [v]else out)
  have h2:out.length≤(if fM p.globals v then out++ [v]else out).length∧(if fM p.globals v then out++ [v]else out).length≤out.length+1:=by split<;>simp
  simp only[List.length_cons]
  omega
def p9:List Sm→Nat
 | []=>0
 |v::l=>v.said.length+p9 l
theorem Dt : ∀ a b:List Sm,p9 (a++b)=p9 a+p9 b
 | [],b=>by simp[p9]
 |v::a,b=>by simp only[List.cons_append,p9,Dt a b];omega
theorem acr (v:Sm):v.said.length≤1+v.x.size+2*Ar.aT v.args:=by
 have : ∀ (l:List Ar) (out:List ay),(Ar.said out l).length≤out.length+2*Ar.aT l:=by
  intro l
  induction l with
  |nil=>intro out;simp[Ar.said]
  |cons a l ih=>
   intro out
   simp only[Ar.said,Ar.aT]
   refine Nat.le_trans (ih _) ?_
   have:=mr a.x
   have:1≤a.x.size:=by obtain⟨_,_,_,_⟩:=a.x;simp[Ex.size]
   simp only[List.length_append]
   split<;>simp<;>omega
 have h1:=this v.args (v.wL++v.x.names)
 have h2:=mr v.x
 have h4:v.wL.length≤1:=by unfold Sm.wL;split<;>simp
 simp only[List.length_append]at h1
 unfold Sm.said
 omega
mutual
theorem Vj : ∀ s:Sm,p9 s.pre≤2*s.size
 |⟨id,kind,labels,name,proc,x,has,args,aS,aL⟩=>by
  simp only[Sm.pre,p9,Dt,Sm.size]
  have h1:=acr ⟨id,kind,labels,name,proc,x,has,args,aS,aL⟩
  have h2:=wR aS
  have h3:=wR aL
  dsimp only at h1
  omega
theorem wR : ∀ l:List Sm,p9 (Sm.eW l)≤2*Sm.aT l
 | []=>by simp[Sm.eW,p9,Sm.aT]
 |s::l=>by
  simp only[Sm.eW,Dt,Sm.aT]
  have:=Vj s;have:=wR l;omega
end
theorem BB (p:Pg) : ∀ (l:List Sm) (out:List ay),out.length≤(uR p out l).length∧(uR p out l).length≤out.length+p9 l
 | [],out=>⟨Nat.le_refl _,Nat.le_refl _⟩
 |v::l,out=>by
  simp only[uR,p9]
  have h:=BB p l (uQ p out v.said)
  have h2:=BA p v.said out
  omega
theorem BD {p:Pg} (h:p.my) : ∀ (l out:List ay),out.length≤(wQ p out l).length∧(wQ p out l).length≤out.length+l.length*1800000
 | [],out=>⟨Nat.le_refl _,by simp[wQ]⟩
 | n::l,out=>by
  simp only[wQ]
  have h1:=BD h l (uR p out (vu p n))
  have h2:=BB p (vu p n) out
  have h3:p9 (vu p n)≤1800000:=by
   unfold vu
   split
   ·rename_i f hf
    have:=wR f.body
    have h4:=Pc.bJ (uj hf).1
    have h5:=h.procs.2.1
    simp only[Pc.size]at h4
    omega
   ·simp[p9]
  simp only[List.length_cons]
  omega
theorem Vk {p:Pg} (h:p.may=true):p.procs.length≤16:=by
 unfold Pg.may at h
 split at h
 ·cases h
 ·rename_i c
  simp only[Bool.or_eq_true,decide_eq_true_eq,not_or,Int.not_lt,gt_iff_lt]at c
  have:=c.1.2
  omega
def Pg.uk (p:Pg) (name:ay):List ay:=wQ p [] (lf (p.work name))
def Pg.rJ (p:Pg) (name:ay):List ay:=match p.Bz name with|some _=>lf (p.uk name)|none=> []
theorem MO {p:Pg} (oS:(p.scope.1==0)=true) {name:ay} {f:Pc} (hf:p.find name=some f):Good p (lf (p.work name)):=by
 have h:=Ds oS (p.procs.length+1) 0 [name] (FA hf)
 refine⟨wP (nL _).1,fun x m=>h.2 x ?_⟩
 exact((nL _).2 x).1 m
theorem Vl {p:Pg} (h:p.my) (name:ay) (s:St):aA Tryz.prog sT [.agg (bY p), .str name] s (.slice .shared 1 ((p.rJ name).map encStr)) s:=by
 refine aA.pure ?_ (by simp[D.bN,D.ok,jP]) (by simp only[D.ok,Tag.ok,fw];rfl) s
 have hk:=fun s=>YH h name s
 have eK:=fun s=>GC (p:=p) (by have:=h.procs;omega) s
 unfold Pg.rJ
 unfold S0
 cases YI:p.Bz name with
 |none=>
  simp only[YI,Option.isSome_none]at hk
  simp only[List.map_nil]
  refine aA.go wi rfl fun B Q hB hQ=>?_
  have⟨hY,hZ,gA,gB⟩:=bu
  repeat' (first
 |simp only[go_sem,hY,hZ,gA,gB]
 |(with_reducible refine CU (hk _) ?_)
 |(with_reducible refine aB hQ ?_;exact aU))
 |some f=>
 obtain⟨oS,hf⟩:=Jx YI
 simp only[YI,Option.isSome_some]at hk
 dsimp only
 obtain⟨sI,q7,wk⟩:=h.procs
 have hN:=MO oS hf
 obtain⟨N,hNe⟩ : ∃ N,lf (p.work name)=N:=⟨_,rfl⟩
 rw[hNe]at hN
 have hNl:=hN.len
 obtain⟨R,hR⟩ : ∃ R,p.uk name=R:=⟨_,rfl⟩
 rw[hR]
 unfold Pg.uk at hR
 rw[hNe]at hR
 have Vh:R.length≤28800000:=by
  have:=(BD h N []).2
  rw[hR]at this
  have h4:=Vk (Jo oS)
  have h3:N.length*1800000≤16*1800000:=Nat.mul_le_mul_right _ (by omega)
  simp only[List.length_nil]at this
  omega
 have hca:=fun s=>acq h oS hf s
 simp only[hNe]at hca
 obtain⟨fn,wo,EH⟩:=wi
 refine aA.intro ⟨fn,wo,EH⟩ (Nat.le_of_ble_eq_true rfl) fun B hB=>?_
 generalize hQ:jO (⟨[],[]⟩:St).az.length (⟨[],[]⟩:St).aD.length _ _ (⟨[],[]⟩:St)=Q
 have⟨hY,hZ,gA,gB⟩:=bu
 refine Sem.ma ?_
 repeat' (first
 |simp only[go_sem,hY,hZ,gA,gB]
 |(with_reducible refine aB hQ ?_;exact aU))
 refine Sem.ma ?_
 repeat' (first
 |simp only[go_sem,hY,hZ,gA,gB]
 |(with_reducible refine CU (hk _) ?_)
 |(with_reducible refine aB hQ ?_;exact aU))
 refine Sem.ma ?_
 repeat' (first
 |simp only[go_sem,hY,hZ,gA,gB]
 |(with_reducible refine CU (eK _) ?_)
 |(with_reducible refine aB hQ ?_;exact aU))
 refine Sem.ma ?_
 repeat' (first
 |simp only[go_sem,hY,hZ,gA,gB]
 |(with_reducible refine aB hQ ?_;exact aU))
 refine Sem.ma ?_
 repeat' (first
 |simp only[go_sem,hY,hZ,gA,gB]
 |(with_reducible refine CU (hca _) ?_)
 |(with_reducible refine aB hQ ?_;exact aU))
 refine bn.oZ 6 1 rfl ?_
 simp only[go_sem,hY,hZ,gA,gB]
 refine cq 1 1 (bn.ind (ι:=List ay×Nat×List ay×Nat) (fun i=>N.drop i.2.1=i.1∧wQ p i.2.2.1 i.1=R∧i.2.2.1.length≤R.length∧i.2.2.2=i.2.2.1.length) (fun i=>i.1.length)
  (fun i=> [(2, .ptr 0 0),(5, .eJ (jo p) 0),(6, .slice (.tok 0) 1 (i.2.2.1.map encStr)),(21, .slice .shared 1 (N.map encStr)),(22, .int .i64 (N.length:Int)),(23, .int .i64 (i.2.1:Int))]) (fun i=>⟨[bY p],[some i.2.2.2]⟩) ?_ (N,0,[],0) ⟨rfl,hR,Nat.zero_le _,rfl⟩)
 rintro⟨rest,k,out,no⟩ ⟨h1,h2,h3,h4⟩ IH
 dsimp only at h1 h2 h3 h4
 subst h4
 cases rest with
 |nil=>
  have hY:=drop_nil h1
  simp only[wQ]at h2
  subst h2
  have G2:(nK out).length=out.length:=List.length_mergeSort out
  repeat' (first
 |simp only[go_sem,hY,hZ,gA,gB]
 |(with_reducible refine aB hQ ?_;exact aU))
  refine Sem.seq (Sem.sort (k:=6) (t:=0) (l:=out) hB (by decide) (by decide) (by decide) rfl rfl (by omega) ?_)
  refine Sem.seq (Sem.compact (k:=6) (t:=0) (l:=nK out) hB (by decide) rfl (by rw[G2];rfl) (by rw[G2];omega) ?_)
  rw[Dq]
  refine jn (ac:= .ret) (Q:=Q) (tm:= [(59, .slice (.tok 0) 1 ((lf out).map encStr)),(4, .slice (.tok 0) 1 ((lf out).map encStr))]) (s:=⟨[],[some (lf out).length]⟩) ?_
  repeat' (first
 |simp only[go_sem,hY,hZ,gA,gB]
 |(with_reducible refine aB hQ ?_;exact aU))
 | cons x rest=>
  obtain⟨hZ,g2,hY,g4⟩:=drop_cons h1
  have cd:k<4611686018427387904:=by omega
  obtain⟨g,MM⟩:=hN.2 x (List.mem_of_getElem? hZ)
  have hgm:=(uj MM).1
  have hbd:vu p x=Sm.eW g.body:=by unfold vu;rw[MM]
  simp only[wQ,hbd]at h2
  obtain⟨j,hj,v8⟩:=Dr (k:=0) MM
  have v8:p.at x=((j:Nat):Int):=by unfold Pg.at;simpa using v8
  have Cd:=fun s=>UQ (p:=p) (by omega) x s
  simp only[v8]at Cd
  obtain⟨it,wq,GZ⟩:=Yd hj (by omega)
  have afQ:it.length≤900000:=by
   have e:=congrArg List.length wq
   obtain⟨a,b,e',_,_,e3,e4⟩:=(sk p).2 j g hj
   have e5:=sn p
   have e6:=congrArg List.length e3
   rw[e4]at e5
   simp only[List.length_map,List.length_append]at e e5 e6
   omega
  rw[← wq]at h2
  repeat' (first
 |simp only[go_sem,hY,hZ,gA,gB,hZ]
 |(with_reducible refine CU (Cd _) ?_)
 |(with_reducible refine CU (GZ _) ?_)
 | (with_reducible refine aB hQ ?_;exact aU))
  obtain⟨W,hW⟩ : ∃ W,uR p out (it.map Im.s)=W:=⟨_,rfl⟩
  rw[hW]at h2
  have hWR:W.length≤R.length:=by have:=(BD h rest W).1;rw[h2]at this;exact this
  have Vc:out.length≤W.length:=by have:=(BB p (it.map Im.s) out).1;rw[hW]at this;exact this
  refine cq 1 1 (bn.ind (ι:=List Im×Nat×List ay×Nat) (fun i=>it.drop i.2.1=i.1∧uR p i.2.2.1 (i.1.map Im.s)=W∧i.2.2.1.length≤W.length∧i.2.2.2=i.2.2.1.length) (fun i=>i.1.length)
   (fun i=> [(2, .ptr 0 0),(5, .eJ (jo p) 0),(6, .slice (.tok 0) 1 (i.2.2.1.map encStr)),(21, .slice .shared 1 (N.map encStr)),(22, .int .i64 (N.length:Int)),(23, .int .i64 (k:Int)),(31, .slice .shared 17 (it.map fD)),(32, .int .i64 (it.length:Int)),(33, .int .i64 (i.2.1:Int))]) (fun i=>⟨[bY p],[some i.2.2.2]⟩) ?_ (it,0,out,out.length) ⟨rfl,hW,Vc,rfl⟩)
  rintro⟨yO,k2,FB,no⟩ ⟨j1,j2,j3,j4⟩ vo
  dsimp only at j1 j2 j3 j4
  subst j4
  cases yO with
  |nil=>
   have aud:=drop_nil j1
   simp only[List.map_nil,uR]at j2
   subst j2
   repeat' (first
 |simp only[go_sem,hY,hZ,gA,gB,aud]
 | (with_reducible refine aB hQ ?_;exact aU))
   refine eQ 1 1 ?_ ?_ (IH (rest,k+1,FB,FB.length) ⟨g2,h2,hWR,rfl⟩ (Nat.lt_succ_self _))
   ·(simp only[go_sem,hY,hZ,gA,gB,aM cd];try exact bQ)
   ·(simp only[go_sem,hY,hZ,gA,gB,aM cd];try exact bQ)
  |cons y yO=>
   obtain⟨qA,Pl,Az,jg4⟩:=drop_cons j1
   have vn:k2<4611686018427387904:=by omega
   have hym:y.s∈Sm.eW g.body:=by rw[← wq];exact List.mem_map_of_mem (List.mem_of_getElem? qA)
   have ZG:=h.said hgm _ hym
   have hsa:=fun s=>Dg ZG s
   have G2:=MB _ ZG
   simp only[List.map_cons,uR]at j2
   repeat' (first
 |simp only[go_sem,hY,hZ,gA,gB,Az,qA]
 |(with_reducible refine CU (hsa _) ?_)
 | (with_reducible refine aB hQ ?_;exact aU))
   obtain⟨V,hV⟩ : ∃ V,uQ p FB y.s.said=V:=⟨_,rfl⟩
   rw[hV]at j2
   have hVW:V.length≤W.length:=by have:=(BB p (yO.map Im.s) V).1;rw[j2]at this;exact this
   have hoV:FB.length≤V.length:=by have:=(BA p y.s.said FB).1;rw[hV]at this;exact this
   refine cq 1 1 (bn.ind (ι:=List ay×Nat×List ay×Nat) (fun i=>y.s.said.drop i.2.1=i.1∧uQ p i.2.2.1 i.1=V∧i.2.2.1.length≤V.length∧i.2.2.2=i.2.2.1.length) (fun i=>i.1.length)
    (fun i=> [(2, .ptr 0 0),(5, .eJ (jo p) 0),(6, .slice (.tok 0) 1 (i.2.2.1.map encStr)),(21, .slice .shared 1 (N.map encStr)),(22, .int .i64 (N.length:Int)),(23, .int .i64 (k:Int)),(31, .slice .shared 17 (it.map fD)),(32, .int .i64 (it.length:Int)),(33, .int .i64 (k2:Int)),(39, .slice .shared 1 (y.s.said.map encStr)),(40, .int .i64 (y.s.said.length:Int)),(41, .int .i64 (i.2.1:Int))]) (fun i=>⟨[bY p],[some i.2.2.2]⟩) ?_ (y.s.said,0,FB,FB.length) ⟨rfl,hV,hoV,rfl⟩)
   rintro⟨G7,k3,BE,no⟩ ⟨l1,l2,l3,l4⟩ IH3
   dsimp only at l1 l2 l3 l4
   subst l4
   cases G7 with
   |nil=>
    have aue:=drop_nil l1
    simp only[uQ]at l2
    subst l2
    repeat' (first
 |simp only[go_sem,hY,hZ,gA,gB,aue]
 | (with_reducible refine aB hQ ?_;exact aU))
    refine eQ 1 1 ?_ ?_ (vo (yO,k2+1,BE,BE.length) ⟨Pl,j2,hVW,rfl⟩ (Nat.lt_succ_self _))
    ·(simp only[go_sem,hY,hZ,gA,gB,aM vn];try exact bQ)
    ·(simp only[go_sem,hY,hZ,gA,gB,aM vn];try exact bQ)
   | cons z G7=>
    obtain⟨af4,lg2,llt,lg4⟩:=drop_cons l1
    have hk4:k3<4611686018427387904:=by omega
    have G6:=fun g s=>kr (l:=p.globals) (by omega) z g s
    simp only[uQ]at l2
    rcases Bool.eq_false_or_eq_true (fM p.globals z)with c1|c1
    ·simp only [c1,if_true]at l2
     have gA:(BE.length+1)*17≤aF:=by unfold aF;omega
     have hoo:(BE++ [z]).length≤V.length:=by have:=(BA p G7 (BE++ [z])).1;rw[l2]at this;exact this
     repeat' (first
 |simp only[go_sem,hY,hZ,gA,gB,llt,af4,c1]
 |(with_reducible refine CU (G6 _ _) ?_)
 | (with_reducible refine aB hQ ?_;exact aU))
     refine eQ 1 1 ?_ ?_ (IH3 (G7,k3+1,BE++ [z],BE.length+1) ⟨lg2,l2,hoo,by simp⟩ (Nat.lt_succ_self _))
     ·(simp only[go_sem,hY,hZ,gA,gB,aM hk4,List.map_append,List.map_cons,List.map_nil,encStr];try exact bQ)
     ·(simp only[go_sem,hY,hZ,gA,gB,aM hk4,List.map_append,List.map_cons,List.map_nil,encStr];try exact bQ)
    ·simp only [c1,Bool.false_eq_true,if_false]at l2
     repeat' (first
 |simp only[go_sem,hY,hZ,gA,gB,llt,af4,c1]
 |(with_reducible refine CU (G6 _ _) ?_)
 |(with_reducible refine aB hQ ?_;exact aU))
     refine eQ 1 1 ?_ ?_ (IH3 (G7,k3+1,BE,BE.length) ⟨lg2,l2,l3,rfl⟩ (Nat.lt_succ_self _))
     ·(simp only[go_sem,hY,hZ,gA,gB,aM hk4];try exact bQ)
     ·(simp only[go_sem,hY,hZ,gA,gB,aM hk4];try exact bQ)
mutual
def Sm.EK (deep aN:Int) (aL:Bool):Sm→List It
 |⟨id,kind,labels,name,proc,x,has,args,aS,e⟩=>⟨⟨id,kind,labels,name,proc,x,has,args,aS,e⟩,deep,aN,aL⟩::(Sm.YJ (deep+1) id false aS++Sm.YJ (deep+1) id true e)
def Sm.YJ (deep aN:Int) (aL:Bool):List Sm→List It
 | []=> []
 |s::l=>s.EK deep aN aL++Sm.YJ deep aN aL l
end
def G8 (l:List Sm) (none:Int):Int:=match l with| []=>none|t::_=>t.id
mutual
def Sm.AG (proc up next loop:Int):Sm→List Im
 |⟨id,kind,labels,name,pc,x,has,args,aS,aL⟩=>⟨⟨id,kind,labels,name,pc,x,has,args,aS,aL⟩,proc,up,next,loop⟩::
  (Sm.mS proc id (if kind==6 then id else next) (if kind==6 then id else loop) aS++Sm.mS proc id (if kind==6 then id else next) (if kind==6 then id else loop) aL)
def Sm.mS (proc up next loop:Int):List Sm→List Im
 | []=> []
 |s::l=>s.AG proc up (G8 l next) loop++Sm.mS proc up next loop l
end
def rj (n:Nat) (l:List Sm):Prop:=∀ (i:Nat) (v:Sm),l[i]? = some v→v.id=((n+i+1:Nat):Int)
theorem rj.head {n:Nat} {v:Sm} {l:List Sm} (h:rj n (v::l)):v.id=((n+1:Nat):Int):=h 0 v rfl
theorem rj.tail {n:Nat} {v:Sm} {l:List Sm} (h:rj n (v::l)):rj (n+1) l:=fun i w hw=>by
 rw[h (i+1) w (by simpa using hw)];congr 1;omega
theorem rj.left {n:Nat} {a b:List Sm} (h:rj n (a++b)):rj n a:=fun i w hw=>h i w (by rw[List.getElem?_append_left (List.getElem?_eq_some_iff.1 hw).1];exact hw)
theorem rj.right {n:Nat} {a b:List Sm} (h:rj n (a++b)):rj (n+a.length) b:=fun i w hw=>by
 rw[h (a.length+i) w (by rw[List.getElem?_append_right (by omega)];simpa using hw)];congr 1;omega
theorem YK (s:Sm):s.pre=s::(Sm.eW s.aS++Sm.eW s.aL):=Sm.Mq s
mutual
theorem Pq : ∀ s:Sm,s.jy=s.pre.length
 |⟨id,kind,labels,name,proc,x,has,args,aS,aL⟩=>by
  simp only[Sm.jy,Sm.pre,List.length_cons,List.length_append,BF aS,BF aL];omega
theorem BF : ∀ l:List Sm,Sm.fj l=(Sm.eW l).length
 | []=>rfl
 |s::l=>by simp only[Sm.fj,Sm.eW,List.length_append,Pq s,BF l]
end
mutual
theorem aaW (proc up next loop:Int) : ∀ s:Sm,(s.AG proc up next loop).map Im.s=s.pre
 |⟨id,kind,labels,name,pc,x,has,args,aS,aL⟩=>by
  simp only[Sm.AG,Sm.pre,List.map_cons,List.map_append,AH _ _ _ _ aS,AH _ _ _ _ aL]
theorem AH (proc up next loop:Int) : ∀ l:List Sm,(Sm.mS proc up next loop l).map Im.s=Sm.eW l
 | []=>rfl
 |s::l=>by simp only[Sm.mS,Sm.eW,List.map_append,aaW _ _ _ _ s,AH _ _ _ _ l]
end
theorem acs (proc up next loop:Int) (s:Sm):(s.AG proc up next loop).length=s.pre.length:=by rw[← aaW proc up next loop s,List.length_map]
theorem MP (proc up next loop:Int) (l:List Sm):(Sm.mS proc up next loop l).length=(Sm.eW l).length:=by rw[← AH proc up next loop l,List.length_map]
mutual
theorem acu (proc up next loop:Int) (out:List Im) : ∀ s:Sm,rj out.length s.pre→Im.one proc up next loop out s=out++s.AG proc up next loop
 | ⟨id,kind,labels,name,pc,x,has,args,aS,aL⟩,h=>by
  simp only[Sm.pre]at h
  have h0:id=((out.length+1:Nat):Int):=h.head
  have h1:=h.tail.left
  have h2:=h.tail.right
  have e0:((out.length:Int)+1)=id:=by rw[h0];rfl
  simp only[Im.one,Sm.AG,e0]
  rw[BG proc id _ _ (out++ [_]) aS (by rw[List.length_append];exact h1)]
  rw[BG proc id _ _ _ aL (by
   rw[List.length_append,List.length_append,MP];exact h2)]
  simp
theorem BG (proc up next loop:Int) (out:List Im) : ∀ l:List Sm,rj out.length (Sm.eW l)→Im.rows proc up next loop out l=out++Sm.mS proc up next loop l
 | [],h=>by simp[Im.rows,Sm.mS]
 | s::l,h=>by
  simp only[Sm.eW]at h
  have e:(if l.length=0 then next else(out.length:Int)+1+(s.jy:Int))=G8 l next:=by
   cases l with
   |nil=>rfl
   |cons t l=>
    have h2:=h.right
    simp only[Sm.eW]at h2
    rw[YK t]at h2
    simp only[List.length_cons,G8]
    rw[if_neg (by omega),h2.head,Pq]
    omega
  simp only[Im.rows,Sm.mS,e]
  rw[acu proc up _ loop out s h.left,BG proc up next loop _ l (by rw[List.length_append,acs];exact h.right)]
  simp
end
def Ip (n:Nat):List Pc→List Im
 | []=> []
 |f::l=>Sm.mS n 0 (-1) 0 f.body++Ip (n+1) l
theorem acv {p:Pg} (h:p.may=true):rj 0 p.pre:=fun i v hv=>by rw[afN h hv];congr 1;omega
def Vm (l:List It):Nat→Int→Int
 | 0,_=>0
 |n+1,aN=>if aN==0 then 0 else match l[n]? with
  |none=>0
  |some x=>if x.s.id != aN then Vm l n aN else if x.s.kind==6 then aN else Vm l n x.aN
def Up (L:List It) (k:Nat) (EK:List It) (AG:List Im):Prop:=∀ (i:Nat) (a:It) (b:Im),EK[i]? = some a→AG[i]? = some b→a.s=b.s∧a.aN=b.up∧Vm L (k+i) a.aN=b.loop
def lh (seen:List ay):List ay→List ay×Bool
 | []=>(seen,true)
 |n::l=>if fM seen n then(seen,false)else lh (seen++ [n]) l
theorem Jy : ∀ (l seen:List ay),seen.length≤(lh seen l).1.length∧(lh seen l).1.length≤seen.length+l.length
 | [],seen=>by simp[lh]
 |n::l,seen=>by
  simp only[lh]
  split
  ·simp
  ·have:=Jy l (seen++ [n]);simp at this ⊢;omega
def G9 (Iq:List ay) (v:Sm) (loop:Int):Bool:=if v.kind==7 ||v.kind==8 then loop != 0 else if v.kind==10 then fM Iq v.name else true
def D2 (Iq fin seen:List ay):List (Sm×Int)→Option Int
 | []=>if(lh seen fin).2 then none else some 0
 |(v,lp)::l=>if(lh seen v.labels).2 then(if G9 Iq v lp then D2 Iq fin (lh seen v.labels).1 l else some v.id)else some v.id
def ky:List Sm→List ay
 | []=> []
 |v::l=>v.labels++ky l
def Pc.labels (f:Pc):List ay:=ky (Sm.eW f.body)++f.fin
def Im.pair (m:Im):Sm×Int:=(m.s,m.loop)
def Pc.aaX (f:Pc):List (Sm×Int):=(Sm.mS 0 0 (-1) 0 f.body).map Im.pair
def Ha:List Pc→Option Int
 | []=>none
 |f::l=>match D2 f.labels f.fin [] f.aaX with
  |some id=>some id
  |none=>Ha l
def AJ (c:Int):Option Int→Int×Int
 |some id=>(c,id)
 |none=>(0,0)
def Pg.jump (p:Pg):Int×Int:=if p.scope.1==0 then AJ 7 (Ha p.procs)else(1,0)
mutual
theorem YL (proc up next qT Vn next' loop:Int) : ∀ s:Sm,(s.AG proc up next loop).map Im.pair=(s.AG qT Vn next' loop).map Im.pair
 |⟨id,kind,labels,name,pc,x,has,args,aS,aL⟩=>by
  simp only[Sm.AG,List.map_cons,List.map_append,Im.pair]
  rw[yP proc id _ qT id (if kind==6 then id else next') _ aS,yP proc id _ qT id (if kind==6 then id else next') _ aL]
theorem yP (proc up next qT Vn next' loop:Int) : ∀ l:List Sm,(Sm.mS proc up next loop l).map Im.pair=(Sm.mS qT Vn next' loop l).map Im.pair
 | []=>rfl
 |s::l=>by
  simp only[Sm.mS,List.map_append]
  rw[YL proc up _ qT Vn (G8 l next') loop s,yP proc up next qT Vn next' loop l]
end
theorem YM (n:Int) (f:Pc):(Sm.mS n 0 (-1) 0 f.body).map Im.pair=f.aaX:=yP _ _ _ _ _ _ _ _
def Pr (l:List It):Nat→Int→Int
 | 0,_=>0
 |n+1,id=>match l[n]? with
  |none=>0
  |some x=>if x.s.id != id then Pr l n id else if Vm l n x.aN != 0 then Vm l n x.aN else Pr l n id
end Go.Abs
